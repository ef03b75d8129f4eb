/- Reslicing; boxes, loads, stores. No condition. -/
import Derived.Test.YtbknlijpkabcnaaGreatK7
namespace Go.Proofs.YtbknlijpkabcnaaGreat.K
open Go

section
variable {P : Program} {T : Tab} {i nx : Nat} {op : Oper} {ρ : Operand → AV} {o : Ob} {K : Kont}

theorem R.box_row {w : World} {f : Phi} {own : Nat → Prop} {v : Value} {c : AV} (h : R w f own v c) (hc : c.solid = true) :
    v.cells.size = c.cells.length ∧ ∀ (k : Nat) d u, c.cells[k]? = some d → v.cells[k]? = some u → R w f own u d := by
  obtain ⟨vs, h1, h2, h3⟩ := h.cells hc
  rw [h1]
  exact ⟨by simpa using h2, fun k d u hd hu => h3 k u d (by simpa using hu) hd⟩

theorem Gives.mk_new (v : AV) (ob : AObj) (hk : K v [(nx + 16 * i, some ob)] []) (hs : SemOp P i op ρ o nx v [(nx + 16 * i, some ob)] []) : Gives P i op ρ o nx K :=
  ⟨v, _, [], hk, hs, fun x hx => by simp at hx; subst hx; exact .inr ⟨Nat.le_refl _, by simp⟩⟩

theorem gives_alloc (t : Nat) (hop : op.op = .alloc t) (hT : T.Ok P) (ti : TI) (ht : T t = some ti) (h : K (.ptr (nx + 16 * i) 0) [(nx + 16 * i, some (.box ti.zero.cells))] []) : Gives P i op ρ o nx K := by
  refine Gives.mk_new _ _ h (sem_of _ _ _ fun f st a w hr hn hu he ho => ?_)
  subst hn
  obtain ⟨v, hz, hzo, hzs⟩ := (hT t ti ht).run_zero w
  have hz2 := (hT t ti ht).zero
  refine ⟨putPhi f (st.nx + 16 * i) ⟨some w.heap.size, 0, 0, 0⟩, _, .pointer (some ⟨w.heap.size, 0, none⟩), ?_,
    out_new hr hu _ v.cells t (Pushed.alloc w v.cells t) _ _ rfl _ _ (fun own' _ => ?_) (fun own' => .ptr _ _ _ _ _ _ (putPhi_self _ _ _))⟩
  · simp [execOp, hop, Instr.alloc, hz, newVar, newRow]
  · refine ⟨w.heap.size, v.cells, t, putPhi_self _ _ _, (Pushed.alloc w v.cells t).new, by rw [hzs, hz2.2.1], fun k c u hc hu => ?_⟩
    have hR := R.ofVal { w with heap := w.heap.push (.cells v.cells t) } (putPhi f (st.nx + 16 * i) ⟨some w.heap.size, 0, 0, 0⟩) own' v
    rw [hzo] at hR
    exact (hR.box_row hz2.1).2 k c u hc hu

theorem gives_box (t : Nat) (x : Operand) (hop : op.op = .box t x) (hs : (ρ x).solid = true) (h : K (.ptr (nx + 16 * i) 0) [(nx + 16 * i, some (.box (ρ x).cells))] []) : Gives P i op ρ o nx K := by
  refine Gives.mk_new _ _ h (sem_of _ _ _ fun f st a w hr hn hu he ho => ?_)
  subst hn
  have hx : R w f (owns f st.o) (a.eval x) (ρ x) := by rw [← he x (by simp [hop, Op.operands])]; exact hr.ev x
  refine ⟨putPhi f (st.nx + 16 * i) ⟨some w.heap.size, 0, 0, 0⟩, _, .pointer (some ⟨w.heap.size, 0, none⟩), ?_,
    out_new hr hu _ (a.eval x).cells t (Pushed.alloc w _ t) _ _ rfl _ _ (fun own' hk => ?_) (fun own' => .ptr _ _ _ _ _ _ (putPhi_self _ _ _))⟩
  · simp [execOp, hop, Instr.box, newVar, newRow]
  · have hf := (hr.fresh hu (b := st.nx + 16 * i) (Nat.le_refl _) (by omega)).1
    have hx' := (hx.mono (putPhi_le f (st.nx + 16 * i) ⟨some w.heap.size, 0, 0, 0⟩ hf) hk).box_row hs
    exact ⟨w.heap.size, (a.eval x).cells, t, putPhi_self _ _ _, (Pushed.alloc w _ t).new, hx'.1, hx'.2⟩

/-- The row of a box. -/
theorem box_row {w : World} {f : Phi} {own : Nat → Prop} {id : Nat} {cs : List AV} (h : ObjAt w f own id (.box cs)) {g cap z n : Nat} (hf : f id = some ⟨some g, cap, z, n⟩) :
    ∃ (cur : Array Value) (e : TypeId), w.heap[g]? = some (.cells cur e (0, 0)) ∧ Pw (R w f own) cur.toList cs ∧ f id = some ⟨some g, 0, 0, 0⟩ := by
  obtain ⟨g', cur, e, h1, h2, h3, h4⟩ := h
  have h1' := h1
  rw [hf] at h1; cases h1
  exact ⟨cur, e, h2, ⟨by simpa using h3, fun k v c hv hc => h4 k c v hc (by simpa using hv)⟩, h1'⟩

theorem arr_place {w : World} {f : Phi} {own : Nat → Prop} {id z : Nat} {xs : List AV} (h : ObjAt w f own id (.arr z xs)) {g cap z' n : Nat} (hf : f id = some ⟨some g, cap, z', n⟩) :
    z' = z ∧ n = xs.length ∧ 0 < z ∧ ∃ (cur : Array Value) (e : TypeId), w.heap[g]? = some (.cells cur e (0, 0)) ∧ cur.size = cap * z ∧ xs.length ≤ cap ∧ cap ≤ maxLen ∧
      El (R w f own) z cur.toList xs ∧ ∀ x ∈ xs, ∀ c ∈ x.cells, c.good = true := by
  rcases h with ⟨h0, ⟨h1, h2⟩ | ⟨g', cap', cur, e, h1, h2, h3, h4, h5, h6, h7, h8⟩⟩
  · rw [hf] at h1; cases h1
  · rw [hf] at h1; cases h1
    refine ⟨rfl, rfl, h0, cur, e, h2, h3, h4, h5, ⟨h6, ?_, ?_⟩, h7⟩
    · show xs.length * z ≤ cur.size; rw [h3]; exact Nat.mul_le_mul_right z h4
    · intro j i x c hj hc
      obtain ⟨u, hu, hr⟩ := h8 j i x c hj hc
      exact ⟨u, by rw [Array.getElem?_toList]; exact hu, hr⟩

theorem gives_load (t : Nat) (x : Operand) (hop : op.op = .load t x) (hT : T.Ok P) (ti : TI) (ht : T t = some ti)
    (h : match ρ x with
      | .ptr id off => match o id with
        | some (.box cs) => bif Nat.ble (off + ti.size) cs.length then K (mkv ti (cs.drop off)) [] [id] else False
        | _ => False
      | .ep id n off => match o id with
        | some (.arr z xs) => bif Nat.ble (off + ti.size) z then EX xs n fun x => K (mkv ti (x.cells.drop off)) [] [id] else False
        | _ => False
      | .rp cs => bif Nat.ble ti.size cs.length then K (mkv ti cs) [] [] else False
      | _ => False) : Gives P i op ρ o nx K := by
  have hm : x ∈ op.op.operands.toList := by simp [hop, Op.operands]
  have ok := hT t ti ht
  have hexec : ∀ (a : Act) (w : World) (ad : Addr) (r : Value), a.eval x = .pointer (some ad) → (loadVar t ad).run P w = .ok r w → (execOp a.eval op).run P w = .ok (.value r) w := by
    intro a w ad r h1 h2
    simp [execOp, hop, Instr.loadAt, Instr.sureAddr, h1, h2]
  split at h
  · rename_i id off hx
    split at h
    · rename_i cs hob
      cases hb : Nat.ble (off + ti.size) cs.length with
      | false => rw [hb] at h; exact h.elim
      | true =>
        rw [hb] at h
        have hle := Nat.le_of_ble_eq_true hb
        refine gives_val _ _ h fun f st a w hr he ho => ?_
        have h1 := he x hm; rw [hx] at h1
        obtain ⟨g, cap, z, n, h2, h3⟩ := h1.ptr_inv
        obtain ⟨cur, e, h4, h5, _⟩ := box_row (hr.o.at_ id _ (by rw [ho id (by simp)]; exact hob)) h2
        obtain ⟨r, h6, h7⟩ := run_loadVar_of ok (w := w) (⟨g, off, none⟩ : Addr) (cur.toList.drop off) (cs.drop off) (fun k u hk => by
          rw [add_mk, cell_mk h4]; rw [List.getElem?_drop] at hk; rw [← Array.getElem?_toList]; exact hk) (h5.drop off) (by rw [List.length_drop]; omega)
        exact ⟨r, hexec a w _ r h3 h6, h7⟩
    · exact h.elim
  · rename_i id n off hx
    split at h
    · rename_i z xs hob
      cases hb : Nat.ble (off + ti.size) z with
      | false => rw [hb] at h; exact h.elim
      | true =>
        rw [hb] at h
        have hle := Nat.le_of_ble_eq_true hb
        obtain ⟨x', hx', h⟩ := h
        refine gives_val _ _ h fun f st a w hr he ho => ?_
        have h1 := he x hm; rw [hx] at h1
        obtain ⟨g, cap, z', n', h2, h3⟩ := h1.ep_inv
        obtain ⟨rfl, rfl, _, cur, e, h4, h5, _, _, h6, _⟩ := arr_place (hr.o.at_ id _ (by rw [ho id (by simp)]; exact hob)) h2
        have h7 := h6.cells hx'
        have hz := h6.zz x' (List.mem_of_getElem? hx')
        obtain ⟨r, h8, h9⟩ := run_loadVar_of ok (w := w) (⟨g, n * z' + off, none⟩ : Addr) (((cur.toList.drop (n * z')).take z').drop off) (x'.cells.drop off) (fun k u hk => by
          rw [add_mk, cell_mk h4]
          rw [List.getElem?_drop, List.getElem?_take] at hk
          split at hk
          · rw [List.getElem?_drop] at hk; rw [← Array.getElem?_toList, Nat.add_assoc]; exact hk
          · cases hk) (h7.drop off) (by rw [List.length_drop]; omega)
        exact ⟨r, hexec a w _ r h3 h8, h9⟩
    · exact h.elim
  · rename_i cs hx
    cases hb : Nat.ble ti.size cs.length with
    | false => rw [hb] at h; exact h.elim
    | true =>
      rw [hb] at h
      have hle := Nat.le_of_ble_eq_true hb
      refine gives_val _ _ h fun f st a w hr he ho => ?_
      have h1 := he x hm; rw [hx] at h1
      generalize hv : a.eval x = u at h1
      cases h1 with
      | rp ad _ val hp hcell hR =>
        obtain ⟨r, h8, h9⟩ := run_loadVar_of ok (w := w) ad ((List.range cs.length).map val) cs (fun k u hk => by
          rw [List.getElem?_map] at hk
          cases hq : (List.range cs.length)[k]? with
          | none => rw [hq] at hk; cases hk
          | some j =>
            rw [hq] at hk
            obtain ⟨hj, hj2⟩ := List.getElem?_eq_some_iff.1 hq
            simp at hj hj2; subst hj2
            simp at hk; subst hk
            exact (hcell k hj).2) ⟨by simp, fun k u c hk hc => by
          rw [List.getElem?_map] at hk
          cases hq : (List.range cs.length)[k]? with
          | none => rw [hq] at hk; cases hk
          | some j =>
            rw [hq] at hk
            obtain ⟨hj, hj2⟩ := List.getElem?_eq_some_iff.1 hq
            simp at hj hj2; subst hj2
            simp at hk; subst hk
            exact hR k c hc⟩ hle
        exact ⟨r, hexec a w _ r hv h8, h9⟩
  · exact h.elim

theorem Pw.one {w : World} {f : Phi} {own : Nat → Prop} {vs : List Value} {cs : List AV} (h : Pw (R w f own) vs cs) (hc : cs.all AV.one = true) : ∀ u ∈ vs, u.oneCell' = true := by
  intro u hu
  obtain ⟨c, h1, h2⟩ := h.mem hu
  exact h2.one (List.all_eq_true.1 hc c h1)

theorem setRow_mk (w : World) (g : Nat) (cur C : Array Value) (e : TypeId) (h : w.heap[g]? = some (.cells cur e (0, 0))) : (w.setRow g C).heap[g]? = some (.cells C e (0, 0)) := setRow_heap w g cur C e (0, 0) h

theorem gives_store (t : Nat) (x y : Operand) (hop : op.op = .store t x y) (hT : T.Ok P) (ti : TI) (ht : T t = some ti) (hsol : (ρ y).solid = true) (hlen : (ρ y).cells.length = ti.size)
    (hone : (ρ y).cells.all AV.one = true)
    (h : match ρ x with
        | .ptr id off => match o id with
          | some (.box cs) => bif Nat.ble (off + ti.size) cs.length then K (.tup []) [(id, some (.box (setCells cs off (ρ y).cells)))] [id] else False
          | _ => False
        | .ep id n off => match o id with
          | some (.arr z xs) => bif Nat.ble (off + ti.size) z && (ρ y).cells.all AV.good then
              EX xs n fun x => K (.tup []) [(id, some (.arr z (xs.set n (putCells z x off (ρ y)))))] [id] else False
          | _ => False
        | _ => False) : Gives P i op ρ o nx K := by
  have hm1 : x ∈ op.op.operands.toList := by simp [hop, Op.operands]
  have hm2 : y ∈ op.op.operands.toList := by simp [hop, Op.operands]
  have ok := hT t ti ht
  have hexec : ∀ (a : Act) (w w' : World) (ad : Addr), a.eval x = .pointer (some ad) → (storeVar t ad (a.eval y)).run P w = .ok () w' → (execOp a.eval op).run P w = .ok .skip w' := by
    intro a w w' ad h1 h2
    simp [execOp, hop, Instr.storeAt, Instr.sureAddr, h1, h2]
  split at h
  · rename_i id off hx
    split at h
    · rename_i cs hob
      cases hb : Nat.ble (off + ti.size) cs.length with
      | false => rw [hb] at h; exact h.elim
      | true =>
        rw [hb] at h
        have hle := Nat.le_of_ble_eq_true hb
        refine ⟨_, _, _, h, sem_skip _ _ fun f st a w hr he ho => ?_, fun z hz => by simp at hz; subst hz; exact .inl (by simp)⟩
        have h1 := he x hm1; rw [hx] at h1
        have h2 := he y hm2
        obtain ⟨g, cap, z, n, h3, h4⟩ := h1.ptr_inv
        have hobj : st.o id = some (.box cs) := by rw [ho id (by simp)]; exact hob
        obtain ⟨cur, e, h5, h6, h7⟩ := box_row (hr.o.at_ id _ hobj) h3
        obtain ⟨vs, h8, h9, h10⟩ := h2.cells hsol
        have hPw : Pw (R w f (owns f st.o)) vs (ρ y).cells := ⟨h9, h10⟩
        have hfit : off + vs.length ≤ cur.size := by have := h6.1; rw [Array.length_toList] at this; omega
        have hst := run_storeVar_of ok g off e cur h5 (a.eval y) vs h8 (by omega) (hPw.one hone) hfit
        refine ⟨f, _, hexec a w _ _ h4 hst, out_row hr i id (.box cs) _ hobj g _ h3 rfl _ _ _ (fun own' hk => ?_) (fun own' => R.undef _ _ _)⟩
        have hsp := h6.splice hPw off (by simpa using hfit)
        refine ⟨g, _, e, h7, setRow_mk w g cur _ e h5, by have := hsp.1; simpa [setCells, splice] using this, fun k c v hc hv => ?_⟩
        refine (hsp.2 k v c (by simpa using hv) hc).mono f.le_refl hk
    · exact h.elim
  · rename_i id n off hx
    split at h
    · rename_i z xs hob
      cases hb : Nat.ble (off + ti.size) z && (ρ y).cells.all AV.good with
      | false => rw [hb] at h; exact h.elim
      | true =>
        rw [hb] at h
        rw [Bool.and_eq_true] at hb
        have hle := Nat.le_of_ble_eq_true hb.1
        have hpu := List.all_eq_true.1 hb.2
        obtain ⟨x', hx', h⟩ := h
        refine ⟨_, _, _, h, sem_skip _ _ fun f st a w hr he ho => ?_, fun z hz => by simp at hz; subst hz; exact .inl (by simp)⟩
        have h1 := he x hm1; rw [hx] at h1
        have h2 := he y hm2
        obtain ⟨g, cap, z', n', h3, h4⟩ := h1.ep_inv
        have hobj : st.o id = some (.arr z xs) := by rw [ho id (by simp)]; exact hob
        obtain ⟨rfl, rfl, hz0, cur, e, h5, h6, hcap, hcm, h7, h8⟩ := arr_place (hr.o.at_ id _ hobj) h3
        obtain ⟨vs, h9, h10, h11⟩ := h2.cells hsol
        have hPw : Pw (R w f (owns f st.o)) vs (ρ y).cells := ⟨h10, h11⟩
        have hn := (List.getElem?_eq_some_iff.1 hx').1
        have hzx := h7.zz x' (List.mem_of_getElem? hx')
        have hmul : (n + 1) * z' ≤ cap * z' := Nat.mul_le_mul_right z' (by omega)
        rw [Nat.add_mul] at hmul
        have hfit : n * z' + off + vs.length ≤ cur.size := by omega
        have hst := run_storeVar_of ok g (n * z' + off) e cur h5 (a.eval y) vs h9 (by omega) (hPw.one hone) hfit
        refine ⟨f, _, hexec a w _ _ h4 hst, out_row hr i id (.arr z' xs) _ hobj g _ h3 rfl _ _ _ (fun own' hk => ?_) (fun own' => R.undef _ _ _)⟩
        have hel := h7.put hx' off (ρ y) vs hPw (by omega)
        refine ⟨hz0, .inr ⟨g, cap, _, e, by rw [List.length_set]; exact h3, setRow_mk w g cur _ e h5, ?_, by rw [List.length_set]; exact hcap, hcm, hel.zz, fun u hu c hc => ?_, fun j i' u c hj hc => ?_⟩⟩
        · rw [List.size_toArray, length_splice _ _ _ (by simpa using hfit), Array.length_toList]; exact h6
        · rcases List.mem_or_eq_of_mem_set hu with h12 | h12
          · exact h8 u h12 c hc
          · subst h12
            rw [putCells_cells hzx (by omega)] at hc
            unfold splice at hc
            rcases List.mem_append.1 hc with h13 | h13
            · rcases List.mem_append.1 h13 with h14 | h14
              · exact h8 x' (List.mem_of_getElem? hx') c (List.mem_of_mem_take h14)
              · exact hpu c h14
            · exact h8 x' (List.mem_of_getElem? hx') c (List.mem_of_mem_drop h13)
        · obtain ⟨v, hv, hrv⟩ := hel.at_ j i' u c hj hc
          exact ⟨v, by simpa using hv, hrv.mono f.le_refl hk⟩
    · exact h.elim
  · exact h.elim

end
end Go.Proofs.YtbknlijpkabcnaaGreat.K
