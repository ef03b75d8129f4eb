/- Structs out of parts, new rows, append. No condition. -/
import Derived.Test.YtbknlijpkabcnaaGreatK9
namespace Go.Proofs.YtbknlijpkabcnaaGreat.K
open Go

theorem toList_foldl_set (off : Nat) : ∀ (vs : List Value) (k : Nat) (cells : Array Value), off + k + vs.length ≤ cells.size →
    ((vs.zipIdx k).foldl (fun cs p => cs.setIfInBounds (off + p.2) p.1) cells).toList = splice cells.toList (off + k) vs
  | [], k, cells, _ => by simp [splice]
  | v :: vs, k, cells, h => by
    simp only [List.zipIdx_cons, List.foldl_cons]
    simp only [List.length_cons] at h
    rw [toList_foldl_set off vs (k + 1) _ (by simp; omega), Array.toList_setIfInBounds]
    have := list_seg_step cells.toList (off + k) v vs (by simp; omega)
    unfold splice
    rw [← Nat.add_assoc]
    exact this

section
variable {P : Program} {T : Tab} {i nx : Nat} {op : Oper} {ρ : Operand → AV} {o : Ob} {K : Kont}

theorem fill_step (pl : Nat → Option (Nat × Nat)) (cells : Array Value) (n : Nat) (v : Value) (rest : List (Nat × Value)) (vs : List Value) (hv : v.cells = vs.toArray) (off size : Nat)
    (hp : pl n = some (off, size)) (hl : vs.length = size) (hfit : off + vs.length ≤ cells.size) :
    ∃ cells' : Array Value, cells'.toList = splice cells.toList off vs ∧ Instr.fill pl cells ((n, v) :: rest) = Instr.fill pl cells' rest := by
  refine ⟨v.cells.zipIdx.foldl (fun cs (c, j) => cs.setIfInBounds (off + j) c) cells, ?_, ?_⟩
  · have := toList_foldl_set off vs 0 cells (by omega)
    rw [Nat.add_zero] at this
    rw [← this, hv, ← Array.foldl_toList, Array.toList_zipIdx]
  · simp only [Instr.fill, hp]
    rw [if_neg]
    rw [hv]; simp; omega

theorem fillA_of (hT : T.Ok P) (fs : List (Nat × Nat)) (pl : Nat → Option (Nat × Nat)) (hpl : ∀ n off t ti, fs[n]? = some (off, t) → T t = some ti → pl n = some (off, ti.size))
    {w : World} {f : Phi} {own : Nat → Prop} : ∀ (ps : List (Nat × Value)) (aps : List (Nat × AV)) (cells : Array Value) (cs cs' : List AV),
    Pw (fun p q => p.1 = q.1 ∧ R w f own p.2 q.2) ps aps → Pw (R w f own) cells.toList cs → fillA T fs cs aps = some cs' → ∃ cells', Instr.fill pl cells ps = some cells' ∧ Pw (R w f own) cells'.toList cs'
  | [], [], cells, cs, cs', _, h, h2 => by simp [fillA] at h2; subst h2; exact ⟨cells, rfl, h⟩
  | [], _ :: _, _, _, _, h, _, _ => by have := h.1; simp at this
  | _ :: _, [], _, _, _, h, _, _ => by have := h.1; simp at this
  | (n, v) :: ps, (m, c) :: aps, cells, cs, cs', h, hc, h2 => by
    obtain ⟨h3, h4⟩ := h.2 0 _ _ rfl rfl
    simp only at h3 h4
    subst h3
    simp only [fillA] at h2
    split at h2
    · rename_i off t hf
      split at h2
      · rename_i ti ht
        cases hb : c.solid && Nat.beq c.cells.length ti.size && Nat.ble (off + ti.size) cs.length with
        | false => rw [hb] at h2; cases h2
        | true =>
          rw [hb] at h2
          rw [Bool.and_eq_true, Bool.and_eq_true] at hb
          obtain ⟨⟨h5, h6⟩, h7⟩ := hb
          have h6 := Nat.eq_of_beq_eq_true h6
          have h7 := Nat.le_of_ble_eq_true h7
          obtain ⟨vs, h8, h9, h10⟩ := h4.cells h5
          have hl := hc.1
          have hcl : cells.toList.length = cells.size := Array.length_toList
          rw [hcl] at hl
          obtain ⟨cells', h11, h12⟩ := fill_step pl cells n v ps vs h8 off ti.size (hpl n off t ti hf ht) (by omega) (by omega)
          rw [h12]
          refine fillA_of hT fs pl hpl ps aps cells' _ cs' ⟨by have := h.1; simpa using this, fun k a b ha hb => h.2 (k + 1) a b (by simpa using ha) (by simpa using hb)⟩ ?_ h2
          rw [h11]
          exact hc.splice ⟨h9, h10⟩ off (by rw [hcl]; omega)
      · cases h2
    · cases h2

theorem run_places (gs : Array Field) (h : ∀ g ∈ gs.toList, ∃ i, P.info? g.type = some i ∧ i.size ≠ 0) (w : World) :
    (gs.mapM fun f => do pure (f.offset, ← sizeOf f.type) : Sem (Array (Nat × Nat))).run P w = .ok (gs.map fun f => (f.offset, P.cellsOf f.type)) w := by
  rw [Array.mapM_eq_mapM_toList]
  have key : ∀ l : List Field, (∀ g ∈ l, ∃ i, P.info? g.type = some i ∧ i.size ≠ 0) →
      (l.mapM fun f => do pure (f.offset, ← sizeOf f.type) : Sem (List (Nat × Nat))).run P w = .ok (l.map fun f => (f.offset, P.cellsOf f.type)) w := by
    intro l
    induction l with
    | nil => intro _; rfl
    | cons g l ih =>
      intro hl
      obtain ⟨i', hi, _⟩ := hl g (by simp)
      have := ih (fun g hg => hl g (by simp [hg]))
      simp [List.mapM_cons, sizeOf, typeInfo, hi, Program.cellsOf] at this ⊢
      rw [this]
      rfl
  rw [Sem.run_map, key gs.toList h]
  simp only [Result.andThen_ok]
  congr 1
  apply Array.ext'; simp

theorem cellsOf_of (hT : T.Ok P) {t : Nat} {ti : TI} (ht : T t = some ti) : P.cellsOf t = ti.size := by
  obtain ⟨i', v, h1, h2, _⟩ := (hT t ti ht).info
  simp [Program.cellsOf, h1, h2]

theorem parts_pw {w : World} {f : Phi} {own : Nat → Prop} (ps : Array (Nat × Operand)) (a : Act) (ρ : Operand → AV) (h : ∀ x ∈ ps.toList, R w f own (a.eval x.2) (ρ x.2)) :
    Pw (fun p q => p.1 = q.1 ∧ R w f own p.2 q.2) (ps.map fun (q : Nat × Operand) => (q.1, a.eval q.2)).toList (ps.toList.map fun q => (q.1, ρ q.2)) := by
  rw [Array.toList_map]
  refine ⟨by simp, fun k p q hp hq => ?_⟩
  rw [List.getElem?_map] at hp hq
  cases hx : ps.toList[k]? with
  | none => rw [hx] at hp; cases hp
  | some x => rw [hx] at hp hq; cases hp; cases hq; exact ⟨rfl, h x (List.mem_of_getElem? hx)⟩

theorem gives_build (t : Nat) (ps : Array (Nat × Operand)) (hop : op.op = .build t ps) (hT : T.Ok P) (ti : TI) (ht : T t = some ti) (fs : List (Nat × Nat)) (hk : ti.k = .struct fs)
    (cs : List AV) (hf : fillA T fs ti.zero.cells (ps.toList.map fun q => (q.1, ρ q.2)) = some cs) (h : K (.agg cs) [] []) : Gives P i op ρ o nx K := by
  refine gives_val _ [] h fun f st a w hr he _ => ?_
  obtain ⟨v, hz, hzo, hzs⟩ := (hT t ti ht).run_zero w
  have hz2 := (hT t ti ht).zero
  obtain ⟨d, h1, h2, h3⟩ := (hT t ti ht).und w
  rw [hk] at h3
  cases d <;> first | exact h3.elim | skip
  rename_i gs
  obtain ⟨h4, h5⟩ := h3
  have hR := R.ofVal w f (owns f st.o) v
  rw [hzo] at hR
  have hbr := hR.box_row hz2.1
  have hpl : ∀ (n : Nat) off t' ti', fs[n]? = some (off, t') → T t' = some ti' → ((gs.map fun f => (f.offset, P.cellsOf f.type))[·]?) n = some (off, ti'.size) := by
    intro n off t' ti' hn ht'
    rw [← h4, List.getElem?_map] at hn
    cases hg : gs.toList[n]? with
    | none => rw [hg] at hn; cases hn
    | some g =>
      rw [hg] at hn
      simp only [Option.map_some, Option.some.injEq, Prod.mk.injEq] at hn
      have hg' : gs[n]? = some g := by rw [← Array.getElem?_toList]; exact hg
      simp [hg', hn.1]
      rw [hn.2]; exact cellsOf_of hT ht'
  obtain ⟨cells', h6, h7⟩ := fillA_of hT fs _ hpl _ _ v.cells ti.zero.cells cs (parts_pw ps a ρ fun x hx => he x.2 (by simp [hop, Op.operands]; exact ⟨x.1, by simpa using hx⟩))
    ⟨by simpa using hbr.1, fun k u c hu hc => hbr.2 k c u hc (by simpa using hu)⟩ hf
  refine ⟨.agg cells', ?_, ?_⟩
  · simp only [execOp, hop, Instr.build, Sem.run_bind, hz, Result.andThen_ok, h2, run_places gs h5 w]
    rw [h6]
    simp
  · have : R w f (owns f st.o) (.agg cells'.toList.toArray) (.agg cs) := .agg _ _ h7.1 h7.2
    simpa using this

theorem fillE_of {w : World} {f : Phi} {own : Nat → Prop} (z : Nat) : ∀ (ps : List (Nat × Value)) (aps : List (Nat × AV)) (cells : Array Value) (xs xs' : List AV),
    Pw (fun p q => p.1 = q.1 ∧ R w f own p.2 q.2) ps aps → El (R w f own) z cells.toList xs → (∀ x ∈ xs, ∀ c ∈ x.cells, c.good = true) → fillE z xs aps = some xs' →
    ∃ cells', Instr.fill (fun n => some (n * z, z)) cells ps = some cells' ∧ El (R w f own) z cells'.toList xs' ∧ (∀ x ∈ xs', ∀ c ∈ x.cells, c.good = true) ∧ cells'.size = cells.size ∧ xs'.length = xs.length
  | [], [], cells, xs, xs', _, h, hg, h2 => by simp [fillE] at h2; subst h2; exact ⟨cells, rfl, h, hg, rfl, rfl⟩
  | [], _ :: _, _, _, _, h, _, _, _ => by have := h.1; simp at this
  | _ :: _, [], _, _, _, h, _, _, _ => by have := h.1; simp at this
  | (n, v) :: ps, (m, c) :: aps, cells, xs, xs', h, hc, hg, h2 => by
    obtain ⟨h3, h4⟩ := h.2 0 _ _ rfl rfl
    simp only at h3 h4
    subst h3
    simp only [fillE] at h2
    cases hb : c.solid && Nat.beq c.cells.length z && c.cells.all AV.good && Nat.blt n xs.length with
    | false => rw [hb] at h2; cases h2
    | true =>
      rw [hb] at h2
      rw [Bool.and_eq_true, Bool.and_eq_true, Bool.and_eq_true] at hb
      obtain ⟨⟨⟨h5, h6⟩, h7⟩, h8⟩ := hb
      have h6 := Nat.eq_of_beq_eq_true h6
      have h7 := List.all_eq_true.1 h7
      have h8 : n < xs.length := by have := Nat.le_of_ble_eq_true h8; omega
      obtain ⟨vs, h9, h10, h11⟩ := h4.cells h5
      have hle := hc.le
      have hm : (n + 1) * z ≤ xs.length * z := Nat.mul_le_mul_right _ h8
      rw [Nat.add_mul] at hm
      have hcl : cells.toList.length = cells.size := Array.length_toList
      rw [hcl] at hle
      obtain ⟨cells', h12, h13⟩ := fill_step (fun n => some (n * z, z)) cells n v ps vs h9 (n * z) z rfl (by omega) (by omega)
      rw [h13]
      have hel := hc.put (List.getElem?_eq_getElem h8) 0 c vs ⟨h10, h11⟩ (by omega)
      have e1 : putCells z xs[n] 0 c = c := by unfold putCells; rw [h6, Nat.beq_refl]; rfl
      rw [e1, Nat.add_zero, ← h12] at hel
      have hsz : cells'.size = cells.size := by
        rw [← Array.length_toList (xs := cells'), h12, length_splice _ _ _ (by rw [hcl]; omega), hcl]
      obtain ⟨cells'', a1, a2, a3, a4, a5⟩ := fillE_of z ps aps cells' (xs.set n c) xs' ⟨by have := h.1; simpa using this, fun k a b ha hb => h.2 (k + 1) a b (by simpa using ha) (by simpa using hb)⟩ hel
        (fun x hx d hd => (List.mem_or_eq_of_mem_set hx).elim (fun h => hg x h d hd) fun h => by subst h; exact h7 d hd) h2
      exact ⟨cells'', a1, a2, a3, a4.trans hsz, by rw [a5, List.length_set]⟩

theorem El.zeros {w : World} {f : Phi} {own : Nat → Prop} (n z : Nat) (zero : Array Value) (c : AV) (_ : 0 < z) (hs : zero.size = z) (hc : c.cells.length = z)
    (hR : ∀ (k : Nat) d u, c.cells[k]? = some d → zero[k]? = some u → R w f own u d) :
    El (R w f own) z ((Array.range (n * z)).map (fun j => zero[j % zero.size]!)).toList (List.replicate n c) := by
  refine ⟨fun x hx => by rw [List.mem_replicate] at hx; rw [hx.2]; exact hc, by simp, fun j q x d hj hd => ?_⟩
  rw [List.getElem?_replicate] at hj
  split at hj
  · rename_i hjn
    cases hj
    have hq : q < z := by rw [← hc]; exact (List.getElem?_eq_some_iff.1 hd).1
    have : (j + 1) * z ≤ n * z := Nat.mul_le_mul_right _ hjn
    rw [Nat.add_mul] at this
    have hq' : q < zero.size := by omega
    refine ⟨zero[q], ?_, hR q d _ hd (Array.getElem?_eq_getElem hq')⟩
    have e : (j * z + q) % zero.size = q := by rw [hs, Nat.mul_comm, Nat.mul_add_mod, Nat.mod_eq_of_lt hq]
    rw [Array.getElem?_toList, Array.getElem?_map, Array.getElem?_range, if_pos (by omega)]
    simp [e, hq']
  · cases hj

theorem gives_buildSlice (t len : Nat) (ps : Array (Nat × Operand)) (hop : op.op = .buildSlice t len ps) (hT : T.Ok P) (ti : TI) (ht : T t = some ti) (e : Nat) (hk : ti.k = .slice e)
    (te : TI) (hte : T e = some te) (hbd : len * te.size ≤ 16777216) (xs : List AV) (hf : fillE te.size (List.replicate len te.zero) (ps.toList.map fun q => (q.1, ρ q.2)) = some xs)
    (h : K (.own (nx + 16 * i)) [(nx + 16 * i, some (.arr te.size xs))] []) : Gives P i op ρ o nx K := by
  refine Gives.mk_new _ _ h (sem_of _ _ _ fun f st a w hr hn hu he ho => ?_)
  subst hn
  have oke := hT e te hte
  obtain ⟨v, hz, hzo, hzs⟩ := oke.run_zero w
  have hz2 := oke.zero
  have hR := R.ofVal w f (owns f st.o) v
  rw [hzo] at hR
  have hbr := hR.box_row hz2.1
  have hps : Pw (fun p q => p.1 = q.1 ∧ R w f (owns f st.o) p.2 q.2) (ps.map fun (q : Nat × Operand) => (q.1, a.eval q.2)).toList (ps.toList.map fun q => (q.1, ρ q.2)) :=
    parts_pw ps a ρ fun x hx => by
      have := he x.2 (by simp [hop, Op.operands]; exact ⟨x.1, by simpa using hx⟩)
      rw [← this]; exact hr.ev x.2
  have hzero : ∀ zz : Array Value, (len * te.size = 0 → zz = #[]) → (len * te.size ≠ 0 → zz = v.cells) →
      El (R w f (owns f st.o)) te.size ((Array.range (len * te.size)).map (fun j => zz[j % zz.size]!)).toList (List.replicate len te.zero) := by
    intro zz h1 h2
    by_cases hl : len * te.size = 0
    · have : len = 0 := by rcases Nat.mul_eq_zero.1 hl with h | h; exact h; have := oke.pos.1; omega
      subst this
      exact ⟨fun x hx => by simp at hx, by simp, fun j q x c hj => by simp at hj⟩
    · rw [h2 hl]; exact El.zeros len te.size v.cells te.zero oke.pos.1 hzs hz2.2.1 hbr.2
  have hgood : ∀ x ∈ List.replicate len te.zero, ∀ c ∈ x.cells, c.good = true := fun x hx c hc => by rw [List.mem_replicate] at hx; rw [hx.2] at hc; exact hz2.2.2 c hc
  have hrun : ∃ cells : Array Value, (execOp a.eval op).run P w = .ok (.value (.slice (some ⟨w.heap.size, 0, none⟩) len len)) { w with heap := w.heap.push (.cells cells e) } ∧
      El (R w f (owns f st.o)) te.size cells.toList xs ∧ (∀ x ∈ xs, ∀ c ∈ x.cells, c.good = true) ∧ cells.size = len * te.size ∧ xs.length = len := by
    have hno : ¬ 2 ^ 24 < len * te.size := by omega
    by_cases hl : len * te.size = 0
    · obtain ⟨cells', h1, h2, h3, h4, h5⟩ := fillE_of te.size _ _ _ _ xs hps (hzero #[] (fun _ => rfl) (fun h => absurd hl h)) hgood hf
      refine ⟨cells', ?_, h2, h3, by simpa using h4, by simpa using h5⟩
      have hfill := h1
      simp only [execOp, hop, Instr.buildSlice, Sem.run_bind, run_underlying (TI.Ok.und_slice hT ht hk), Result.andThen_ok, oke.run_sizeOf w]
      rw [if_neg (by omega)]
      simp only [hl, if_true]
      rw [hl] at hfill
      have hps' : (ps.map fun (q : Nat × Operand) => (q.1, a.eval q.2)).toList = ps.toList.map fun (q : Nat × Operand) => (q.1, a.eval q.2) := by simp
      rw [hps'] at hfill
      have r0 : Array.range 0 = #[] := rfl
      rw [r0, List.map_toArray] at hfill
      simp only [List.map_nil] at hfill
      simp [r0, hfill, newRow]
    · obtain ⟨cells', h1, h2, h3, h4, h5⟩ := fillE_of te.size _ _ _ _ xs hps (hzero v.cells (fun h => absurd h hl) (fun _ => rfl)) hgood hf
      refine ⟨cells', ?_, h2, h3, by simpa using h4, by simpa using h5⟩
      have hfill := h1
      simp only [execOp, hop, Instr.buildSlice, Sem.run_bind, run_underlying (TI.Ok.und_slice hT ht hk), Result.andThen_ok, oke.run_sizeOf w]
      rw [if_neg (by omega), if_neg hl]
      have hps' : (ps.map fun (q : Nat × Operand) => (q.1, a.eval q.2)).toList = ps.toList.map fun (q : Nat × Operand) => (q.1, a.eval q.2) := by simp
      rw [hps'] at hfill
      simp [hz, hfill, newRow]
  obtain ⟨cells, h1, h2, h3, h4, h5⟩ := hrun
  refine ⟨putPhi f (st.nx + 16 * i) ⟨some w.heap.size, len, te.size, len⟩, _, _, h1,
    out_new hr hu _ cells e (Pushed.alloc w cells e) _ _ rfl _ _ (fun own' hkk => ?_) (fun own' => .own _ _ _ _ _ (putPhi_self _ _ _))⟩
  have hfr := (hr.fresh hu (b := st.nx + 16 * i) (Nat.le_refl _) (by omega)).1
  refine ⟨oke.pos.1, .inr ⟨w.heap.size, len, cells, e, by rw [h5]; exact putPhi_self _ _ _, (Pushed.alloc w cells e).new, h4, by omega, by simp only [maxLen]; have := Nat.le_mul_of_pos_right len oke.pos.1; omega, h2.zz, h3, fun j q x c hj hc => ?_⟩⟩
  obtain ⟨u, hu', hru⟩ := h2.at_ j q x c hj hc
  exact ⟨u, by simpa using hu', hru.mono (putPhi_le _ _ _ hfr) hkk⟩

end
end Go.Proofs.YtbknlijpkabcnaaGreat.K
