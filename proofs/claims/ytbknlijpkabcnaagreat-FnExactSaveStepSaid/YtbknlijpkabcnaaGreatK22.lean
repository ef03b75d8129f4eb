/- Bodies are sound; and a contract out of a body. No condition. -/
import Derived.Test.YtbknlijpkabcnaaGreatK21
namespace Go.Proofs.YtbknlijpkabcnaaGreat.K
open Go

def Ex.to : Ex → Exit
  | .nrm => .normal
  | .exit id => .exit id
  | .ret => .ret

/-- What has been kept since a state. -/
structure Since (f0 : Phi) (st0 : St) (w0 : World) (f : Phi) (st : St) (w : World) : Prop where
  loc : ∀ j l, j < st0.c → f0 j = some l → f j = some l
  x : f.x = f0.x
  fr : Fr w0 (live f0 st0.o) w (live f st.o)
  nt : st.nt = st0.nt
  c : st.c = st0.c

theorem Since.refl (f : Phi) (st : St) (w : World) : Since f st w f st w := ⟨fun _ _ _ h => h, rfl, .refl _ _, rfl, rfl⟩

theorem Since.trans {f0 f1 f2 : Phi} {st0 st1 st2 : St} {w0 w1 w2 : World} (a : Since f0 st0 w0 f1 st1 w1) (b : Since f1 st1 w1 f2 st2 w2) : Since f0 st0 w0 f2 st2 w2 :=
  ⟨fun j l hj h => b.loc j l (by rw [a.c]; exact hj) (a.loc j l hj h), b.x.trans a.x, a.fr.trans b.fr, b.nt.trans a.nt, b.c.trans a.c⟩

theorem Fr.shrink {w w' : World} {own own' own'' : Nat → Prop} (h : Fr w own w' own') (hs : ∀ g, own'' g → own' g) : Fr w own w' own'' :=
  ⟨h.size, h.keep, fun g hg => h.sub g (hs g hg), h.os, h.tape, h.output⟩

theorem least {p : Nat → Prop} : ∀ n, p n → ∃ n, p n ∧ ∀ m, p m → n ≤ m := by
  intro n
  induction n using Nat.strongRecOn with
  | _ n ih =>
    intro hn
    by_cases h : ∃ m, m < n ∧ p m
    · obtain ⟨m, h1, h2⟩ := h; exact ih m h1 h2
    · exact ⟨n, hn, fun m hm => Nat.le_of_not_lt fun hlt => h ⟨m, hlt, hm⟩⟩

open Classical in
noncomputable def leastN (p : Nat → Prop) : Nat := if h : ∃ n, p n ∧ ∀ m, p m → n ≤ m then h.choose else 0

theorem leastN_spec {p : Nat → Prop} {n : Nat} (h : p n) : p (leastN p) ∧ ∀ m, p m → leastN p ≤ m := by
  have := least n h
  unfold leastN
  rw [dif_pos this]
  exact this.choose_spec

section
variable {P : Program} {T : Tab}

theorem awp_sound (hT : T.Ok P) (hm : P.follows .mixedOrders = true) : ∀ (code : Code) (st : St) (K : Ex → St → Prop) (f : Phi) (a : Act) (w : World), awp P T code st K → Rel f st a w → (∀ j, st.u j = false) →
    ∀ Q : Exit → Act → World → Prop, (∀ e st' f' a' w', K e st' → Since f st w f' st' w' → Rel f' st' a' w' → (∀ j, st'.u j = false) → Q e.to a' w') → code.wp P Q a w := by
  intro code
  induction code with
  | skip => intro st K f a w h hr hu Q hk; exact wp_skip (hk .nrm st f a w h (.refl ..) hr hu)
  | region id ops draw =>
    intro st K f a w h hr hu Q hk
    exact areg_sound hT hm (fun h1 h2 h3 h4 => aopS_sound hT h1 h2 h3 h4) h hr hu fun f' st' a' w' h1 h2 h3 h4 h5 =>
      hk .nrm st' f' a' w' h1 ⟨fun j l _ hl => h2.le.loc j l hl, h2.le.x, h2.fr, h4, h5⟩ h2.rel h3
  | seq x y ihx ihy =>
    intro st K f a w h hr hu Q hk
    refine wp_seq (ihx st _ f a w h hr hu _ fun e st' f' a' w' h1 h2 h3 h4 => ?_)
    cases e with
    | nrm => exact ihy st' K f' a' w' h1 h3 h4 Q fun e st'' f'' a'' w'' k1 k2 k3 k4 => hk e st'' f'' a'' w'' k1 (h2.trans k2) k3 k4
    | exit id => exact hk (.exit id) st' f' a' w' h1 h2 h3 h4
    | ret => exact hk .ret st' f' a' w' h1 h2 h3 h4
  | cond c x y ihx ihy =>
    intro st K f a w h hr hu Q hk
    have hc := hr.ev c
    simp only [awp] at h
    split at h
    · rename_i t hx
      rw [hx] at hc
      have hb := hc.b_inv
      cases t with
      | true => exact wp_cond_true hb (ihx st K f a w h hr hu Q hk)
      | false => exact wp_cond_false hb (ihy st K f a w h hr hu Q hk)
    · rename_i q hx
      rw [hx] at hc
      obtain ⟨t, h1, h2⟩ := hc.p_inv
      refine wp_cond_split h1 (fun ht => ihx st K f a w (h.1 (h2.1 ht)) hr hu Q hk) (fun ht => ihy st K f a w (h.2 fun hq => ?_) hr hu Q hk)
      rw [h2.2 hq] at ht; cases ht
    · exact h.elim
  | block id x ih =>
    intro st K f a w h hr hu Q hk
    refine wp_block (ih st _ f a w h hr hu _ fun e st' f' a' w' h1 h2 h3 h4 => ?_)
    cases e with
    | nrm => exact hk .nrm st' f' a' w' h1 h2 h3 h4
    | ret => exact hk .ret st' f' a' w' h1 h2 h3 h4
    | exit j =>
      show (if j = id then Q .normal a' w' else Q (.exit j) a' w')
      simp only at h1
      cases hb : Nat.beq j id with
      | true =>
        rw [hb] at h1
        have := Nat.eq_of_beq_eq_true hb
        rw [if_pos this]
        exact hk .nrm st' f' a' w' h1 h2 h3 h4
      | false =>
        rw [hb] at h1
        rw [if_neg (fun e => by rw [e] at hb; rw [Nat.beq_refl] at hb; cases hb)]
        exact hk (.exit j) st' f' a' w' h1 h2 h3 h4
  | loop x ih =>
    intro st K f a w h hr hu Q hk
    obtain ⟨ι, I, μ, x0, hp, hB⟩ := h
    let J : ι → Act → World → Prop := fun y a' w' => ∃ f', Rel f' ((I y).st st.nt st.c) a' w' ∧ Since f st w f' ((I y).st st.nt st.c) w'
    let p : Act → World → Nat → Prop := fun a' w' n => ∃ y, μ y = n ∧ J y a' w'
    have hpass : ∀ (st' : St) (f' : Phi) (a' : Act) (w' : World) (y : ι), Rel f' st' a' w' → Since f st w f' st' w' → Pass st' (I y) → J y a' w' := by
      intro st' f' a' w' y h1 h2 h3
      obtain ⟨f'', k1, k2, k3, k4⟩ := pass_sound h1 h3
      rw [h2.nt, h2.c] at k1 k4
      exact ⟨f'', k1, ⟨fun j l hj hl => by rw [k2 j (by rw [h2.c]; exact hj)]; exact h2.loc j l hj hl, k3.trans h2.x, h2.fr.shrink k4, rfl, rfl⟩⟩
    refine wp_loop (fun a' w' => ∃ n, p a' w' n) (fun a' w' => leastN (p a' w')) ⟨_, x0, rfl, hpass st f a w x0 hr (.refl ..) hp⟩ fun a' w' hI => ?_
    obtain ⟨n, hn⟩ := hI
    obtain ⟨y, hy, f', h1, h2⟩ := (leastN_spec hn).1
    refine ih _ _ f' a' w' (hB y) h1 (fun _ => rfl) _ fun e st'' f'' a'' w'' k1 k2 k3 k4 => ?_
    have hs := h2.trans k2
    cases e with
    | nrm =>
      obtain ⟨z, hz, hp'⟩ := k1
      have hJ := hpass st'' f'' a'' w'' z k3 hs hp'
      refine ⟨⟨μ z, z, rfl, hJ⟩, ?_⟩
      have := (leastN_spec (p := p a'' w'') (n := μ z) ⟨z, rfl, hJ⟩).2 (μ z) ⟨z, rfl, hJ⟩
      omega
    | exit id => exact hk (.exit id) st'' f'' a'' w'' k1 hs k3 k4
    | ret => exact hk .ret st'' f'' a'' w'' k1 hs k3 k4
  | exit id => intro st K f a w h hr hu Q hk; exact wp_exit (hk (.exit id) st f a w h (.refl ..) hr hu)
  | ret => intro st K f a w h hr hu Q hk; exact wp_ret (hk .ret st f a w h (.refl ..) hr hu)
  | _ => intro st K f a w h; exact h.elim

/-- What a function hands back, of one result. -/
def resF (tmps : Array Value) : ResultVar → Sem Value
  | .tmp t => pure (tmps.getD t undef)
  | .cell a t => do loadVar t (← asAddr (tmps.getD a undef))

theorem results_eq (fn : Func) (tmps : Array Value) : results fn tmps = (do
    let vs ← fn.results.mapM (resF tmps)
    pure (if h : vs.size = 1 then vs[0] else .tuple vs)) := by
  have : (fun x => match x with | ResultVar.tmp t => pure (tmps.getD t undef) | ResultVar.cell a t => (do loadVar t (← asAddr (tmps.getD a undef)) : Sem Value)) = resF tmps := by
    funext r; cases r <;> rfl
  exact congrArg (fun F : ResultVar → Sem Value => (do
    let vs ← fn.results.mapM F
    pure (if h : vs.size = 1 then vs[0] else .tuple vs) : Sem Value)) this

theorem run_resF (hT : T.Ok P) {f : Phi} {st : St} {a : Act} {w : World} (hr : Rel f st a w) : ∀ (rs : List ResultVar) (vs : List AV), resV T st rs = some vs →
    ∃ us : List Value, (rs.mapM (resF a.tmps)).run P w = .ok us w ∧ Pw (R w f (owns f st.o)) us vs
  | [], vs, h => by
    simp only [resV, Option.some.injEq] at h
    subst h
    exact ⟨[], by simp, rfl, fun k u c hu => by simp at hu⟩
  | .tmp t :: l, vs, h => by
    simp only [resV, Option.map_eq_some_iff] at h
    obtain ⟨vs', h1, rfl⟩ := h
    obtain ⟨us, h2, h3⟩ := run_resF hT hr l vs' h1
    refine ⟨a.tmps.getD t undef :: us, by simp [List.mapM_cons, resF, h2], by simp [h3.1], fun k u c hu hc => ?_⟩
    match k with
    | 0 =>
      simp only [List.getElem?_cons_zero, Option.some.injEq] at hu hc
      subst hu; subst hc; exact hr.t t
    | k + 1 => exact h3.2 k u c (by simpa using hu) (by simpa using hc)
  | .cell x ty :: l, vs, h => by
    simp only [resV] at h
    split at h
    · rename_i id off ti hx ht
      split at h
      · rename_i cs hob
        cases hb : Nat.ble (off + ti.size) cs.length with
        | false => rw [hb] at h; cases h
        | true =>
          rw [hb] at h
          simp only [cond_true, Option.map_eq_some_iff] at h
          obtain ⟨vs', h1, rfl⟩ := h
          obtain ⟨us, h2, h3⟩ := run_resF hT hr l vs' h1
          have hle := Nat.le_of_ble_eq_true hb
          have hR := hr.t x
          rw [hx] at hR
          obtain ⟨g, cap, z, n, k2, k3⟩ := hR.ptr_inv
          obtain ⟨cur, e, k4, k5, _⟩ := box_row (hr.o.at_ id _ hob) k2
          obtain ⟨r, k6, k7⟩ := run_loadVar_of (hT ty ti ht) (w := w) (⟨g, off, none⟩ : Addr) (cur.toList.drop off) (cs.drop off) (fun k u hk => by
            rw [add_mk, cell_mk k4]; rw [List.getElem?_drop] at hk; rw [← Array.getElem?_toList]; exact hk) (k5.drop off) (by rw [List.length_drop]; omega)
          refine ⟨r :: us, by simp [List.mapM_cons, resF, h2, k3, asAddr, k6], by simp [h3.1], fun k u c hu hc => ?_⟩
          match k with
          | 0 =>
            simp only [List.getElem?_cons_zero, Option.some.injEq] at hu hc
            subst hu; subst hc; exact k7
          | k + 1 => exact h3.2 k u c (by simpa using hu) (by simpa using hc)
      · cases h
    · cases h

theorem run_results (hT : T.Ok P) {f : Phi} {st : St} {a : Act} {w : World} (hr : Rel f st a w) (fn : Func) (vs : List AV) (h : resV T st fn.results.toList = some vs) :
    ∃ u, (results fn a.tmps).run P w = .ok u w ∧ R w f (owns f st.o) u (one vs) := by
  obtain ⟨us, h1, h2⟩ := run_resF hT hr _ _ h
  have hm : (fn.results.mapM (resF a.tmps)).run P w = .ok us.toArray w := by
    rw [Array.mapM_eq_mapM_toList]
    simp [h1]
  rw [results_eq]
  simp only [Sem.run_bind, hm, Result.andThen_ok]
  match us, vs, h2 with
  | [u], [v], h2 => exact ⟨u, rfl, h2.2 0 u v rfl rfl⟩
  | [], [], h2 => exact ⟨_, rfl, .tup _ _ rfl fun k v c hv => by simp at hv⟩
  | u :: u' :: us, v :: v' :: vs, h2 => exact ⟨.tuple (u :: u' :: us).toArray, by simp, .tup _ _ h2.1 h2.2⟩
  | [], _ :: _, h2 => have := h2.1; simp at this
  | _ :: _, [], h2 => have := h2.1; simp at this
  | [_], _ :: _ :: _, h2 => have := h2.1; simp at this
  | _ :: _ :: _, [_], h2 => have := h2.1; simp at this

/-- A contract, out of a body. -/
theorem con_of_awp (hT : T.Ok P) (hm : P.follows .mixedOrders = true) {f : FuncId} {fn : Func} {body : Code} {args : List AV} {co : List AObj} {ret : AV} {co' : List (Option AObj)}
    (hf : P.funcs[f]? = some fn) (hb : fn.body = some body) (hn : (fn.name == "runtime.NumGoroutine") = false)
    (h : awp P T body (St.init args co (args.length + (fn.ntmps - args.length))) (RET T fn.results ret co')) : Con P f args co ret co' := by
  intro φ w vs hO hx hnone hl hR
  have hn' : ¬ fn.name = "runtime.NumGoroutine" := by simpa using hn
  refine .inl ⟨by simp [callFunc, hf, hn', hb], calls_of_wp hf hb ?_⟩
  let a0 : Act := { tmps := vs.toArray ++ Array.replicate (fn.ntmps - vs.toArray.size) undef, defers := [] }
  have hr0 : Rel φ (St.init args co (args.length + (fn.ntmps - args.length))) a0 w := by
    refine ⟨fun k => ?_, by simp [a0, St.init, hl], rfl, hO, hx, fun id hid _ => hnone id hid⟩
    show R w φ _ ((vs.toArray ++ Array.replicate (fn.ntmps - vs.toArray.size) undef).getD k undef) (match args[k]? with | some v => v | none => .tup [])
    rw [Array.getD_eq_getD_getElem?, Array.getElem?_append]
    simp only [List.size_toArray, List.getElem?_toArray]
    by_cases hk : k < vs.length
    · rw [if_pos hk, List.getElem?_eq_getElem hk, List.getElem?_eq_getElem (by omega : k < args.length)]
      exact hR k _ _ (List.getElem?_eq_getElem hk) (List.getElem?_eq_getElem (by omega : k < args.length))
    · rw [if_neg hk, List.getElem?_eq_none (by omega : args.length ≤ k)]
      have : ((Array.replicate (fn.ntmps - vs.length) undef)[k - vs.length]?).getD undef = undef := by
        rw [Array.getElem?_replicate]; split <;> rfl
      rw [this]; exact R.undef _ _ _
  refine awp_sound hT hm body _ _ φ a0 w h hr0 (fun _ => rfl) _ fun e st' f' a' w' hK hs hr hu => ?_
  have key : e.to = .normal ∨ e.to = .ret → bodyPost P fn (fun e w' => ∃ v, e = .returned v ∧ ∃ φ' : Phi, φ.le φ' ∧ ORel φ' (fun j => (co'[j]?).join) w' ∧ R w' φ' (owns φ' fun j => (co'[j]?).join) v ret ∧
      Fr w (live φ fun j => co[j]?) w' (live φ' fun j => (co'[j]?).join) ∧ ∀ j, co'.length ≤ j → φ' j = none) .ret a' w' := by
    intro he
    have hK' : match resV T st' fn.results.toList with
      | some vs => ∃ m : List Src, (keepB 0 st'.c m && nodupB (liveIds m co')) = true ∧ passO m st'.o m co' ∧ leV m st'.o (one vs) ret
      | none => False := by cases e <;> first | exact hK | (rcases he with he | he <;> cases he)
    split at hK'
    · rename_i rv hrv
      obtain ⟨m, h1, h2, h3⟩ := hK'
      rw [Bool.and_eq_true] at h1
      obtain ⟨u, k1, k2⟩ := run_results hT hr fn rv hrv
      obtain ⟨p1, p2, p3, p4, p5⟩ := pass_objs (ol := co') hr h1.2 h2
      refine ⟨hr.d, u, k1, u, rfl, passPhi m co' f', ⟨fun id l hl => ?_, hs.x⟩, p1, k2.leV hr.o.at_ p4 p5 h3, hs.fr.shrink p2, p3⟩
      have hid : id < co.length := by
        rcases Nat.lt_or_ge id co.length with h | h
        · exact h
        · rw [hnone id h] at hl; cases hl
      have hc : st'.c = co.length := hs.c
      rw [passPhi_keep h1.1 id (by rw [hc]; exact hid)]
      exact hs.loc id l hid hl
    · exact hK'.elim
  cases e with
  | nrm => exact key (.inl rfl)
  | ret => exact key (.inr rfl)
  | exit id => exact hK.elim

end
end Go.Proofs.YtbknlijpkabcnaaGreat.K
