/- The soundness of regions, whole. No condition. -/
import Derived.Test.YtbknlijpkabcnaaGreatK18
namespace Go.Proofs.YtbknlijpkabcnaaGreat.K
open Go

section
variable {P : Program} {T : Tab} {ops : Array Oper}

/-- An operation that comes to something comes to something. -/
theorem wp_exists {o : Oper} {a : Act} {w : World} {next : Act → World → Prop} (h : o.wp P a w next (fun _ _ _ => False)) : ∃ a' w', next a' w' := by
  unfold Oper.wp at h
  generalize (execOp a.eval o).run P w = r at h
  cases r with
  | ok n w' =>
    cases n <;> simp only [Oper.upon] at h
    case value v => exact ⟨_, _, h⟩
    case skip => exact ⟨_, _, h⟩
    case defer d => exact ⟨_, _, h⟩
    case enter g args =>
      obtain ⟨e, w'', fr, h1, _⟩ := h []
      cases e with
      | returned v => exact ⟨_, _, h1⟩
      | panicked ch => exact h1.elim
      | outgrown => obtain ⟨_, _, h⟩ := h1; exact h.elim
    case row r args =>
      obtain ⟨v, w'', h1, _⟩ := h default []
      exact ⟨_, _, h1⟩
    all_goals exact h.elim
  | halt x w' => cases x <;> simp only [Oper.upon] at h

theorem backB_spec : ∀ (i : Nat) (os : List Oper), backB i os = true → ∀ (j : Nat) (o : Oper), os[j]? = some o → ∀ e ∈ o.after.toList, Region.binds .any e = true → e.on < i + j
  | _, [], _, j, o, h, _, _, _ => by simp at h
  | i, p :: os, h, j, o, hj, e, he, hb => by
    unfold backB at h
    rw [Bool.and_eq_true] at h
    match j with
    | 0 =>
      simp only [List.getElem?_cons_zero, Option.some.injEq] at hj
      subst hj
      have := List.all_eq_true.1 h.1 e he
      rw [hb] at this
      simp only [Bool.not_true, Bool.false_or] at this
      have := Nat.le_of_ble_eq_true this
      omega
    | j + 1 =>
      have := backB_spec (i + 1) os h.2 j o (by simpa using hj) e he hb
      omega

theorem ordered_spec (es : List Ent) : ordered ops.toList (es.map fun e => (e.i, e.fp)).reverse = true → Ordered ops es := by
  unfold Ordered
  rw [← List.pairwise_reverse, ← List.map_reverse]
  generalize es.reverse = rs
  induction rs with
  | nil => exact fun _ => List.Pairwise.nil
  | cons e rs ih =>
    intro h
    simp only [List.map_cons, ordered] at h
    rw [Bool.and_eq_true] at h
    refine List.pairwise_cons.2 ⟨fun x hx => ?_, ih h.2⟩
    have key : ∀ l : List (Nat × FP), orderedBefore ops.toList e.i e.fp l = true → ∀ q ∈ l, q.2.indep e.fp = true ∨ anc ops.toList ops.toList.length e.i q.1 = true := by
      intro l
      induction l with
      | nil => intro _ q hq; simp at hq
      | cons q l ih2 =>
        intro hl r hr
        unfold orderedBefore at hl
        rw [Bool.and_eq_true, Bool.or_eq_true] at hl
        rcases List.mem_cons.1 hr with h3 | h3
        · subst h3; exact hl.1
        · exact ih2 hl.2 r h3
    exact key _ h.1 (x.i, x.fp) (List.mem_map.2 ⟨x, hx, rfl⟩)

theorem aopsD_sound (hT : T.Ok P) (nx : Nat) :
    ∀ (os : List Oper) (i : Nat) (st : St) (log : List (Nat × FP)) (K : St → Prop) (f : Phi) (a : Act) (w : World), aopsD P T ops.toList nx i os st log K → ops.toList.drop i = os → i + os.length = ops.size → Rel f st a w → st.nx = nx →
      (∀ j, i ≤ j → st.u j = false) →
      ∃ es st', Valid P ops nx es st st' ∧ ordered ops.toList ((es.map fun e => (e.i, e.fp)).reverse ++ log) = true ∧ backB 0 ops.toList = true ∧ K st' ∧ es.map (·.i) = List.range' i os.length ∧
        st'.nx = nx ∧ (∀ j, ops.size ≤ j → st'.u j = false) ∧ st'.nt = st.nt ∧ st'.c = st.c
  | [], i, st, log, K, f, a, w, h, hos, hln, hr, hn, hu => by
    obtain ⟨h1, h2⟩ := h
    rw [Bool.and_eq_true] at h1
    refine ⟨[], st, rfl, by simpa using h1.1, h1.2, h2, rfl, hn, fun j hj => hu j ?_, rfl, rfl⟩
    simp only [List.length_nil] at hln
    omega
  | o :: os, i, st, log, K, f, a, w, h, hos, hln, hr, hn, hu => by
    have hln' : i + 1 + os.length = ops.size := by simp only [List.length_cons] at hln; omega
    have hi : ops.toList[i]? = some o := by
      have := congrArg (fun l => l[0]?) hos
      simpa [List.getElem?_drop] using this
    have hio : ops[i]? = some o := by rw [← Array.getElem?_toList]; exact hi
    have hos' : ops.toList.drop (i + 1) = os := by
      have := congrArg (List.drop 1) hos
      rw [List.drop_drop] at this
      simpa [Nat.add_comm] using this
    obtain ⟨hd, h⟩ := DST_sound h
    have hu' : ∀ v wo j, i + 1 ≤ j → (st.app i o.dst v wo).u j = false := by
      intro v wo j hj
      show (bif Nat.beq j i then true else st.u j) = false
      have : Nat.beq j i = false := by
        cases e : Nat.beq j i with
        | false => rfl
        | true => have := Nat.eq_of_beq_eq_true e; omega
      rw [this]; exact hu j (by omega)
    have hgt : ∀ d c, gtmp ops.toList o = some (some d, c) → d ∈ tmpsOf ops.toList o := by
      intro d c hg; unfold tmpsOf; rw [hg]; simp
    have hev : ∀ (st2 : St), (∀ d ∈ tmpsOf ops.toList o, st2.t d = st.t d) → ∀ x ∈ o.op.operands.toList, st2.ev x = st.ev x := by
      intro st2 h x hx
      cases x with
      | tmp t => exact h t (by unfold tmpsOf; exact List.mem_append_left _ (List.mem_filterMap.2 ⟨_, hx, rfl⟩))
      | _ => rfl
    rcases GD_sound h with ⟨hw, h⟩ | ⟨hw, h⟩
    · obtain ⟨v, wo, ro, h1, h2, _⟩ := aop_sound (op := o) (i := i) (nx := nx) hT trivial hr rfl rfl h
      have hstep : ∃ a' w' f', Step f st w f' (st.app i o.dst v wo) a' w' := by
        obtain ⟨a', w', f', h3⟩ := wp_exists (h2 f st a w hr hn (hu i (Nat.le_refl _)) (fun _ _ => rfl) (fun _ _ => rfl) (fun a' w' => ∃ f', Step f st w f' (st.app i o.dst v wo) a' w') _
          fun f' r w' hout => ⟨f', hout.step hr hd⟩)
        exact ⟨a', w', f', h3⟩
      obtain ⟨a', w', f', hst⟩ := hstep
      obtain ⟨es, st', k1, k2, k3, k4, k5, k6, k7, k8, k9⟩ := aopsD_sound hT nx os (i + 1) _ _ K f' a' w' h1 hos' hln' hst.rel hn (hu' v wo)
      refine ⟨⟨i, ⟨tmpsOf ops.toList o, o.dst, ro, wo.map (·.1)⟩, v, wo⟩ :: es, st', ⟨⟨rfl, fun f2 st2 a2 w2 hr2 hn2 hnt2 hu2 ht2 ho2 K2 Q2 hk2 => ?_⟩, k1⟩, by simpa using k2, k3, k4, by simp [k5, List.range'_succ], k6, k7, k8, k9⟩
      unfold wpOp
      simp only [hio]
      rw [if_pos (hw f2 st2 a2 w2 hr2 fun d c hg => ht2 d (hgt d c hg))]
      refine .inl (h2 f2 st2 a2 w2 hr2 hn2 hu2 (hev st2 ht2) ho2 _ _ fun f' r w' hout => hk2 f' _ w' (hout.step hr2 fun d hdd => ?_))
      rw [hnt2]; exact hd d hdd
    · have hst := step_skip hr i o.dst hd
      obtain ⟨es, st', k1, k2, k3, k4, k5, k6, k7, k8, k9⟩ := aopsD_sound hT nx os (i + 1) _ _ K f _ w h hos' hln' hst.rel hn (hu' _ _)
      refine ⟨⟨i, ⟨tmpsOf ops.toList o, o.dst, [], []⟩, .tup [], []⟩ :: es, st', ⟨⟨rfl, fun f2 st2 a2 w2 hr2 hn2 hnt2 hu2 ht2 ho2 K2 Q2 hk2 => ?_⟩, k1⟩, by simpa using k2, k3, k4, by simp [k5, List.range'_succ], k6, k7, k8, k9⟩
      unfold wpOp
      simp only [hio]
      rw [if_neg (by rw [hw f2 st2 a2 w2 hr2 fun d c hg => ht2 d (hgt d c hg)]; simp)]
      exact hk2 f2 _ w2 (step_skip hr2 i o.dst fun d hdd => by rw [hnt2]; exact hd d hdd)

theorem Rel.drew {f : Phi} {st : St} {a : Act} {w : World} (hr : Rel f st a w) : Rel f st a { w with drawn := w.drawn + 1 } := by
  have hk : Keeps w (owns f st.o) { w with drawn := w.drawn + 1 } (owns f st.o) := fun _ _ h1 h2 => ⟨h1, h2⟩
  exact ⟨fun k => (hr.t k).mono f.le_refl hk, hr.n, hr.d, ⟨fun id ob h => (hr.o.at_ id ob h).mono f.le_refl hk fun _ _ _ _ => rfl, hr.o.xd, hr.o.inj⟩, hr.xb, hr.fr⟩

theorem Rel.bump {f : Phi} {st : St} {a : Act} {w : World} (hr : Rel f st a w) (n : Nat) (hu : ∀ j, n ≤ j → st.u j = false) : Rel f (st.bump n) a w :=
  ⟨hr.t, hr.n, hr.d, hr.o, hr.xb, fun id hid _ => hr.fr id (by simp only [St.bump] at hid; omega) (hu _ (by simp only [St.bump] at hid; omega))⟩

/-- A region. -/
theorem areg_sound (hT : T.Ok P) (hm : P.follows .mixedOrders = true)
    (hS : ∀ {i nx : Nat} {op : Oper} {K : Kont} {f : Phi} {st : St} {a : Act} {w : World}, Rel f st a w → st.nx = nx → st.u i = false → aopS P T (nx + 16 * i) st.ev st.o op.op K →
      ∃ v wo ro, K v wo ro ∧ ∀ (next : Act → World → Prop) (Q : Exit → Act → World → Prop), (∀ f' r w', Out f st w i v wo f' w' r → next (a.put op.dst r) w') → op.wp P a w next Q)
    {id : Nat} {draw : Bool} {st : St} {K : St → Prop} {f : Phi} {a : Act} {w : World} (h : areg P T ops draw st K) (hr : Rel f st a w) (hu : ∀ j, st.u j = false) {Q : Exit → Act → World → Prop}
    (hk : ∀ f' st' a' w', K st' → Step f st w f' st' a' w' → (∀ j, st'.u j = false) → st'.nt = st.nt → st'.c = st.c → Q .normal a' w') : (Code.region id ops draw).wp P Q a w := by
  unfold areg at h
  cases draw with
  | false =>
    apply wp_region
    rw [List.range_eq_range', ← Array.length_toList]
    refine aops_sound hT hS st.nx ops.toList 0 st _ f a w h rfl (by simp) hr rfl (fun j _ => hu j) fun f' st' a' w' h1 h2 h3 h4 h5 h6 => ?_
    exact hk f' _ a' w' h1 ⟨h2.le, h2.fr, h2.rel.bump _ (fun j hj => h4 j (by simpa using hj))⟩ (fun _ => rfl) h5 h6
  | true =>
    apply wp_region_any hm
    obtain ⟨es, st', k1, k2, k3, k4, k5, k6, k7, k8, k9⟩ := aopsD_sound hT st.nx ops.toList 0 st [] _ f a _ h rfl (by simp) hr.drew rfl (fun j _ => hu j)
    have hlen : es.length = ops.size := by have := congrArg List.length k5; simpa using this
    have hidx : ∀ j, j < ops.size → ∃ e ∈ es, e.i = j := by
      intro j hj
      have : j ∈ es.map (·.i) := by rw [k5, List.mem_range']; exact ⟨j, by simpa using hj, by omega⟩
      obtain ⟨e, he, h⟩ := List.mem_map.1 this
      exact ⟨e, he, h⟩
    have hlt : ∀ e ∈ es, e.i < ops.size := by
      intro e he
      have : e.i ∈ List.range' 0 ops.toList.length := by rw [← k5]; exact List.mem_map.2 ⟨e, he, rfl⟩
      rw [List.mem_range'] at this
      obtain ⟨q, hq, h⟩ := this
      simp at hq; omega
    refine any_sound (nx := st.nx) (fun i o hio e he hb => ?_) st' ops.size es (Array.replicate ops.size false) st f a { w with drawn := w.drawn + 1 } (by omega) k1 (ordered_spec es (by simpa using k2)) hr.drew rfl (by simp)
      (fun i o hi ho e he hb => ?_) (fun i hi => ?_) (by rw [k5]; exact List.pairwise_lt_range' ..) (fun e he => ⟨hlt e he, hu _⟩) fun f' a' w' hst => ?_
    · have := backB_spec 0 ops.toList k3 i o (by rw [Array.getElem?_toList]; exact hio) e he hb; omega
    · exfalso
      have hlt := (Array.getElem?_eq_some_iff.1 ho).1
      simp [Array.getD, hlt] at hi
    · constructor
      · intro _; exact hidx i hi
      · intro _; simp [Array.getD, hi]
    · exact hk f' _ a' w' k4 ⟨hst.le, ⟨hst.fr.size, hst.fr.keep, hst.fr.sub, hst.fr.os, hst.fr.tape, hst.fr.output⟩, hst.rel.bump _ (fun j hj => k7 j (by simpa using hj))⟩ (fun _ => rfl) k8 k9

end
end Go.Proofs.YtbknlijpkabcnaaGreat.K
