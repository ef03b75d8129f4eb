/- The soundness of regions. No condition. -/
import Derived.Test.YtbknlijpkabcnaaGreatK16
namespace Go.Proofs.YtbknlijpkabcnaaGreat.K
open Go

/-- An operation is wanted, or is not, wherever the temporary that it hangs on reads so. -/
def Wants (ops : Array Oper) (o : Oper) (st : St) (b : Bool) : Prop :=
  ∀ (f : Phi) (st2 : St) (a : Act) (w : World), Rel f st2 a w → (∀ d c, gtmp ops.toList o = some (some d, c) → st2.t d = st.t d) → Region.wanted o (yielded ops a.tmps) = b

theorem GD_sound {ops : Array Oper} {o : Oper} {st : St} {run skip : Prop} (h : GD ops.toList o st run skip) : (Wants ops o st true ∧ run) ∨ (Wants ops o st false ∧ skip) := by
  unfold GD at h
  cases hg : o.guard with
  | none =>
    have hgt : gtmp ops.toList o = none := by unfold gtmp; rw [hg]
    rw [hgt] at h
    exact .inl ⟨fun f st2 a w _ _ => by simp [Region.wanted, hg], h⟩
  | some jw =>
    obtain ⟨j, want⟩ := jw
    have hw : ∀ a : Act, Region.wanted o (yielded ops a.tmps) = (yielded ops a.tmps j == some want) := fun a => by simp [Region.wanted, hg]
    cases hp : ops.toList[j]? with
    | none =>
      have hgt : gtmp ops.toList o = some (none, want) := by unfold gtmp; rw [hg]; simp only [hp]
      rw [hgt] at h
      have hp' : ops[j]? = none := by rw [← Array.getElem?_toList]; exact hp
      exact .inr ⟨fun f st2 a w _ _ => by rw [hw]; simp [yielded, hp'], h⟩
    | some p =>
      have hpp : ops[j]? = some p := by rw [← Array.getElem?_toList]; exact hp
      cases hd : p.dst with
      | none =>
        have hgt : gtmp ops.toList o = some (none, want) := by unfold gtmp; rw [hg]; simp only [hp, hd]
        rw [hgt] at h
        exact .inr ⟨fun f st2 a w _ _ => by rw [hw]; simp [yielded, hpp, hd], h⟩
      | some d =>
        have hgt : gtmp ops.toList o = some (some d, want) := by unfold gtmp; rw [hg]; simp only [hp, hd]
        rw [hgt] at h
        simp only at h
        have hy : ∀ (a : Act) (x : Bool), a.tmps.getD d undef = .bool x → yielded ops a.tmps j = some x := by
          intro a x hx
          have hlt : d < a.tmps.size := by
            rcases Nat.lt_or_ge d a.tmps.size with h | h
            · exact h
            · rw [Array.getD_eq_getD_getElem?, Array.getElem?_eq_none h] at hx; cases hx
          have : a.tmps[d]? = some (.bool x) := by
            rw [Array.getElem?_eq_getElem hlt]
            rw [Array.getD_eq_getD_getElem?, Array.getElem?_eq_getElem hlt] at hx
            simpa using hx
          simp [yielded, hpp, hd, this]
        have wants : ∀ x : Bool, (∀ (f : Phi) (st2 : St) (a : Act) (w : World), Rel f st2 a w → st2.t d = st.t d → a.tmps.getD d undef = .bool x) → Wants ops o st (x == want) := by
          intro x hx f st2 a w hr ht
          rw [hw, hy a x (hx f st2 a w hr (ht d want hgt))]
          cases x <;> cases want <;> rfl
        have both : ∀ x : Bool, (∀ (f : Phi) (st2 : St) (a : Act) (w : World), Rel f st2 a w → st2.t d = st.t d → a.tmps.getD d undef = .bool x) →
            (bif x then (bif want then run else skip) else (bif want then skip else run)) → (Wants ops o st true ∧ run) ∨ (Wants ops o st false ∧ skip) := by
          intro x hx h2
          have := wants x hx
          cases x <;> cases want
          · exact .inl ⟨this, h2⟩
          · exact .inr ⟨this, h2⟩
          · exact .inr ⟨this, h2⟩
          · exact .inl ⟨this, h2⟩
        split at h
        · rename_i x hx
          refine both x (fun f st2 a w hr ht => ?_) (by cases x <;> exact h)
          have := hr.t d
          rw [ht, hx] at this; exact this.b_inv
        · rename_i q hq
          by_cases hqq : q
          · refine both true (fun f st2 a w hr ht => ?_) (h.1 hqq)
            have := hr.t d
            rw [ht, hq] at this
            obtain ⟨x, h1, h2⟩ := this.p_inv
            rw [h1, h2.2 hqq]
          · refine both false (fun f st2 a w hr ht => ?_) (h.2 hqq)
            have := hr.t d
            rw [ht, hq] at this
            obtain ⟨x, h1, h2⟩ := this.p_inv
            rw [h1]
            cases x with
            | false => rfl
            | true => exact absurd (h2.1 rfl) hqq
        · rename_i hx
          refine .inr ⟨fun f st2 a w hr ht => ?_, h⟩
          have hR := hr.t d
          rw [ht d want hgt, hx] at hR
          generalize hv : a.tmps.getD d undef = v at hR
          cases hR with
          | tup us _ hl _ =>
            have : us = [] := List.eq_nil_of_length_eq_zero (by simpa using hl)
            subst this
            rw [hw]
            rcases Nat.lt_or_ge d a.tmps.size with h | h
            · have e : a.tmps[d]? = some (.tuple #[]) := by
                rw [Array.getElem?_eq_getElem h]
                rw [Array.getD_eq_getD_getElem?, Array.getElem?_eq_getElem h] at hv
                simpa using hv
              simp [yielded, hpp, hd, e]
            · simp [yielded, hpp, hd, Array.getElem?_eq_none h]
        · exact h.elim

/-- The state behind a guard. -/
def gset (ops : List Oper) (o : Oper) (st : St) (run : Bool) : St := match gtmp ops o with
  | some (some d, want) => (match st.t d with | .p _ => st.set d (bif run then want else !want) | _ => st)
  | _ => st

theorem GDK_GD {ops : List Oper} {o : Oper} {st : St} {run skip : St → Prop} (h : GDK ops o st run skip) : GD ops o st (run (gset ops o st true)) (skip (gset ops o st false)) := by
  unfold GDK at h
  unfold GD
  cases hg : gtmp ops o with
  | none => rw [hg] at h; simp only [gset, hg]; exact h
  | some x =>
    obtain ⟨d, want⟩ := x
    cases d with
    | none => rw [hg] at h; simp only [gset, hg]; exact h
    | some d =>
      rw [hg] at h
      simp only at h ⊢
      cases hv : st.t d <;> rw [hv] at h <;> simp only [gset, hg, hv] at h ⊢ <;> try exact h
      · cases want <;> exact h
      · rename_i vs
        cases vs <;> exact h

theorem gset_rel {ops : Array Oper} {o : Oper} {f : Phi} {st : St} {a : Act} {w : World} (hr : Rel f st a w) (run : Bool) (hw : Region.wanted o (yielded ops a.tmps) = run) :
    Rel f (gset ops.toList o st run) a w := by
  unfold gset
  split
  · rename_i d want hg
    split
    · rename_i q hq
      -- the temporary holds a flag
      obtain ⟨x, h1, h2⟩ := (show R w f (owns f st.o) (a.tmps.getD d undef) (.p q) by rw [← hq]; exact hr.t d).p_inv
      have hx : x = (bif run then want else !want) := by
        unfold gtmp at hg
        split at hg
        · cases hg
        · rename_i j want' hgd
          injection hg with hg
          injection hg with hg1 hg2
          subst hg2
          split at hg1
          · rename_i p hp
            have hp' : ops[j]? = some p := by rw [← Array.getElem?_toList]; exact hp
            have hlt : d < a.tmps.size := by
              rcases Nat.lt_or_ge d a.tmps.size with h | h
              · exact h
              · rw [Array.getD_eq_getD_getElem?, Array.getElem?_eq_none h] at h1; cases h1
            have hd : a.tmps[d]? = some (.bool x) := by
              rw [Array.getElem?_eq_getElem hlt]
              rw [Array.getD_eq_getD_getElem?, Array.getElem?_eq_getElem hlt] at h1
              simpa using h1
            have : Region.wanted o (yielded ops a.tmps) = (x == want') := by
              simp [Region.wanted, hgd, yielded, hp', hg1, hd]
            rw [this] at hw
            subst hw
            cases x <;> cases want' <;> rfl
          · cases hg1
      refine ⟨fun k => ?_, hr.n, hr.d, hr.o, hr.xb, hr.fr⟩
      show R w f (owns f st.o) _ (bif Nat.beq k d then .b (bif run then want else !want) else st.t k)
      cases hb : Nat.beq k d with
      | true =>
        have := Nat.eq_of_beq_eq_true hb
        subst this
        rw [h1, hx]; exact .b _
      | false => exact hr.t k
    · exact hr
  · exact hr

theorem gset_same (ops : List Oper) (o : Oper) (st : St) (run : Bool) : (gset ops o st run).o = st.o ∧ (gset ops o st run).nx = st.nx ∧ (gset ops o st run).u = st.u ∧ (gset ops o st run).nt = st.nt ∧ (gset ops o st run).c = st.c := by
  unfold gset
  split
  · split <;> exact ⟨rfl, rfl, rfl, rfl, rfl⟩
  · exact ⟨rfl, rfl, rfl, rfl, rfl⟩

theorem DST_sound {o : Oper} {st : St} {X : Prop} (h : DST o st X) : (∀ d, o.dst = some d → d < st.nt) ∧ X := by
  unfold DST at h
  split at h
  · rename_i hd; exact ⟨(fun d e => by rw [hd] at e; cases e), h⟩
  · rename_i d hd
    cases hb : Nat.blt d st.nt with
    | false => rw [hb] at h; exact h.elim
    | true =>
      rw [hb] at h
      exact ⟨fun d' e => by rw [hd] at e; cases e; exact Nat.le_of_ble_eq_true hb, h⟩

/-- Nothing done. -/
theorem rel_skip {f : Phi} {st : St} {a : Act} {w : World} (hr : Rel f st a w) (i : Nat) (dst : Option Nat) (hd : ∀ d, dst = some d → d < st.nt) : Rel f (st.app i dst (.tup []) []) (a.put dst undef) w :=
  Out.rel hr hd (out_val hr i (.tup []) undef (R.undef _ _ _))

/-- What holds from a state on, to the next. -/
structure Step (f : Phi) (st : St) (w : World) (f' : Phi) (st' : St) (a' : Act) (w' : World) : Prop where
  le : f.le f'
  fr : Fr w (live f st.o) w' (live f' st'.o)
  rel : Rel f' st' a' w'

theorem Step.trans {f f' f'' : Phi} {st st' st'' : St} {w w' w'' : World} {a' a'' : Act} (h : Step f st w f' st' a' w') (g : Step f' st' w' f'' st'' a'' w'') : Step f st w f'' st'' a'' w'' :=
  ⟨h.le.trans g.le, h.fr.trans g.fr, g.rel⟩

theorem Out.step {f : Phi} {st : St} {a : Act} {w : World} {i : Nat} {v : AV} {wo : List (Nat × Option AObj)} {f' : Phi} {w' : World} {r : Value}
    {dst : Option Tmp} (h : Rel f st a w) (hd : ∀ d, dst = some d → d < st.nt) (q : Out f st w i v wo f' w' r) : Step f st w f' (st.app i dst v wo) (a.put dst r) w' :=
  ⟨q.le, q.fr, q.rel h hd⟩

theorem step_skip {f : Phi} {st : St} {a : Act} {w : World} (hr : Rel f st a w) (i : Nat) (dst : Option Nat) (hd : ∀ d, dst = some d → d < st.nt) : Step f st w f (st.app i dst (.tup []) []) (a.put dst undef) w :=
  (out_val hr i (.tup []) undef (R.undef _ _ _)).step hr hd

section
variable {P : Program} {T : Tab} {ops : Array Oper} {Q : Exit → Act → World → Prop}

/-- In the order of the text. -/
theorem aops_sound (hT : T.Ok P) (hS : ∀ {i nx : Nat} {op : Oper} {K : Kont} {f : Phi} {st : St} {a : Act} {w : World}, Rel f st a w → st.nx = nx → st.u i = false → aopS P T (nx + 16 * i) st.ev st.o op.op K →
      ∃ v wo ro, K v wo ro ∧ ∀ (next : Act → World → Prop) (Q : Exit → Act → World → Prop), (∀ f' r w', Out f st w i v wo f' w' r → next (a.put op.dst r) w') → op.wp P a w next Q) (nx : Nat) :
    ∀ (os : List Oper) (i : Nat) (st : St) (K : St → Prop) (f : Phi) (a : Act) (w : World), aops P T ops.toList nx i os st K → ops.toList.drop i = os → i + os.length = ops.size → Rel f st a w → st.nx = nx →
      (∀ j, i ≤ j → st.u j = false) →
      (∀ f' st' a' w', K st' → Step f st w f' st' a' w' → st'.nx = nx → (∀ j, ops.size ≤ j → st'.u j = false) → st'.nt = st.nt → st'.c = st.c → Q .normal a' w') →
      wpOps P ops Q (List.range' i os.length) a w
  | [], i, st, K, f, a, w, h, hos, hln, hr, hn, hu, hk => by
    refine hk f st a w h ⟨f.le_refl, .refl _ _, hr⟩ hn (fun j hj => hu j ?_) rfl rfl
    simp only [List.length_nil] at hln
    omega
  | o :: os, i, st, K, f, a, w, h, hos, hln, hr, hn, hu, hk => by
    have hln' : i + 1 + os.length = ops.size := by simp only [List.length_cons] at hln; omega
    have hi : ops.toList[i]? = some o := by
      have := congrArg (fun l => l[0]?) hos
      simpa [List.getElem?_drop] using this
    have hio : ops[i]? = some o := by rw [← Array.getElem?_toList]; exact hi
    have hos' : ops.toList.drop (i + 1) = os := by
      have := congrArg (List.drop 1) hos
      rw [List.drop_drop] at this
      simpa [Nat.add_comm] using this
    obtain ⟨hd, h⟩ := DST_sound h
    have hw := GD_sound (GDK_GD h)
    simp only [List.length_cons, List.range'_succ]
    have hu' : ∀ (st : St), (∀ j, i ≤ j → st.u j = false) → ∀ v wo j, i + 1 ≤ j → (st.app i o.dst v wo).u j = false := by
      intro st hu v wo j hj
      show (bif Nat.beq j i then true else st.u j) = false
      have : Nat.beq j i = false := by
        cases e : Nat.beq j i with
        | false => rfl
        | true => have := Nat.eq_of_beq_eq_true e; omega
      rw [this]; exact hu j (by omega)
    simp only [wpOps, hio]
    rcases hw with ⟨hw, h⟩ | ⟨hw, h⟩
    · have hwd := hw f st a w hr fun _ _ _ => rfl
      rw [if_pos hwd]
      have hr2 := gset_rel hr true hwd
      obtain ⟨g1, g2, g3, g4, g5⟩ := gset_same ops.toList o st true
      generalize gset ops.toList o st true = st2 at h hr2 g1 g2 g3 g4 g5
      have hu2 : ∀ j, i ≤ j → st2.u j = false := by rw [g3]; exact hu
      obtain ⟨v, wo, ro, h1, h2⟩ := hS hr2 (g2.trans hn) (hu2 i (Nat.le_refl _)) h
      refine .inl (h2 _ _ fun f' r w' hout => ?_)
      have hst := hout.step hr2 (by rw [g4]; exact hd)
      exact aops_sound hT hS nx os (i + 1) _ K f' _ w' h1 hos' hln' hst.rel (g2.trans hn) (hu' st2 hu2 v wo) fun f'' st'' a'' w'' k1 k2 k3 k4 k5 k6 =>
        hk f'' st'' a'' w'' k1 (by have := hst.trans k2; exact ⟨this.le, by rw [← g1]; exact this.fr, this.rel⟩) k3 k4 (k5.trans g4) (k6.trans g5)
    · have hwd := hw f st a w hr fun _ _ _ => rfl
      rw [if_neg (by rw [hwd]; simp)]
      have hr2 := gset_rel hr false hwd
      obtain ⟨g1, g2, g3, g4, g5⟩ := gset_same ops.toList o st false
      generalize gset ops.toList o st false = st2 at h hr2 g1 g2 g3 g4 g5
      have hu2 : ∀ j, i ≤ j → st2.u j = false := by rw [g3]; exact hu
      have hst := step_skip hr2 i o.dst (by rw [g4]; exact hd)
      exact aops_sound hT hS nx os (i + 1) _ K f _ w h hos' hln' hst.rel (g2.trans hn) (hu' st2 hu2 _ _) fun f'' st'' a'' w'' k1 k2 k3 k4 k5 k6 =>
        hk f'' st'' a'' w'' k1 (by have := hst.trans k2; exact ⟨this.le, by rw [← g1]; exact this.fr, this.rel⟩) k3 k4 (k5.trans g4) (k6.trans g5)

end
end Go.Proofs.YtbknlijpkabcnaaGreat.K
