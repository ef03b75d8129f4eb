/- New rows: literals, make, append; texts and bytes; reslicing. No condition. -/
import Derived.Test.YtbknlijpkabcnaaGreatK8
import Derived.Laws.MakeOwn
namespace Go.Proofs.YtbknlijpkabcnaaGreat.K
open Go

section
variable {P : Program} {T : Tab} {i nx : Nat} {op : Oper} {ρ : Operand → AV} {o : Ob} {K : Kont}

/-- A world with more in it, and no object. -/
theorem out_more {f : Phi} {st : St} {a : Act} {w : World} (hr : Rel f st a w) (i : Nat) (w' : World) (hsz : w.heap.size ≤ w'.heap.size) (hold : ∀ g, g < w.heap.size → w'.heap[g]? = w.heap[g]?)
    (hos : w'.os = w.os) (htp : w'.tape = w.tape) (hou : w'.output = w.output) (v : AV) (r : Value) (hv : R w' f (owns f st.o) r v) : Out f st w i v [] f w' r := by
  have hfr : Fr w (live f st.o) w' (live f st.o) := ⟨hsz, fun g hg _ => hold g hg, fun _ h => .inl h, hos, htp, hou⟩
  refine ⟨f.le_refl, hfr, ⟨fun id ob h => ?_, hr.o.xd, hr.o.inj⟩, hv, fun _ h1 h2 => absurd h1 h2⟩
  have hat := hr.o.at_ id ob h
  exact hat.mono f.le_refl (hfr.keepsX rfl) fun l g hl hg => hold g (hat.lt hl hg)

theorem owns_lt {f : Phi} {st : St} {a : Act} {w : World} (hr : Rel f st a w) {g : Nat} (h : owns f st.o g) : g < w.heap.size := by
  rcases h with ⟨id, ob, l, h1, h2, h3⟩ | h
  · exact (hr.o.at_ id ob h1).lt h2 h3
  · exact hr.xb g h

theorem gives_toBytes (s d : Nat) (x : Operand) (hop : op.op = .convert s d x) (hT : T.Ok P) (ts td : TI) (hs : T s = some ts) (hd : T d = some td) (hks : ts.k = .str) (e : Nat) (hkd : td.k = .slice e)
    (te : TI) (he : T e = some te) (hke : te.k = .int .u8) (l : List UInt8) (hx : ρ x = .s l) (h : K (.sl 1 (l.map u8)) [] []) : Gives P i op ρ o nx K := by
  refine ⟨_, [], [], h, sem_of _ _ _ fun f st a w hr hn hu hev ho => ?_, fun x hx => by simp at hx⟩
  have hx' : R w f (owns f st.o) (a.eval x) (.s l) := by rw [← hx, ← hev x (by simp [hop, Op.operands])]; exact hr.ev x
  obtain ⟨hv, hl⟩ := hx'.s_inv
  have hrun := run_bytes_of_string (P := P) w s d e ⟨l.toArray⟩ (TI.Ok.und_str hT hs hks) (TI.Ok.und_slice hT hd hkd) (TI.Ok.und_int hT he hke)
  have esz : (⟨l.toArray⟩ : ByteArray).size = l.length := rfl
  have hc1 := grownCap_ge w l.length 0 e
  have hc2 := grownCap_le_maxLen w l.length 0 e hl
  rw [esz] at hrun
  refine ⟨f, w.drew.alloc (.cells (bytesRow ⟨l.toArray⟩ (grownCap w l.length 0 e)) e ((bytesRow ⟨l.toArray⟩ (grownCap w l.length 0 e)).size, (bytesRow ⟨l.toArray⟩ (grownCap w l.length 0 e)).size + 1)),
    .slice (some ⟨w.heap.size, 0, none⟩) l.length (grownCap w l.length 0 e), by simp [execOp, hop, hv, hrun], ?_⟩
  refine out_more hr i (w.drew.alloc _) (by show _ ≤ (w.heap.push _).size; rw [Array.size_push]; omega) (fun g hg => ?_) rfl rfl rfl _ _ ?_
  · show (w.heap.push _)[g]? = _
    rw [Array.getElem?_push, if_neg (by omega)]
  · have := R.sl (w := w.drew.alloc (.cells (bytesRow ⟨l.toArray⟩ (grownCap w l.length 0 e)) e ((bytesRow ⟨l.toArray⟩ (grownCap w l.length 0 e)).size, (bytesRow ⟨l.toArray⟩ (grownCap w l.length 0 e)).size + 1)))
      (f := f) (own := owns f st.o) (some ⟨w.heap.size, 0, none⟩) 1 (grownCap w l.length 0 e) (l.map u8) (fun k => .int .u8 ((l.getD k 0).toNat)) (by omega) (by simpa using hc1) hc2
      (fun x hx => (u8_cells l x hx).1) (fun x hx => (u8_cells l x hx).2) (fun k hk => ⟨_, rfl, fun hown => ?_, ?_⟩) (fun j q x c hj hc => ?_)
    · simpa using this
    · exact absurd (owns_lt hr hown) (by simp)
    · rw [add_mk]
      have hk' : k < l.length := by simpa using hk
      have h1 := World.cell?_alloc_mark w.drew (bytesRow ⟨l.toArray⟩ (grownCap w l.length 0 e)) e ((bytesRow ⟨l.toArray⟩ (grownCap w l.length 0 e)).size, (bytesRow ⟨l.toArray⟩ (grownCap w l.length 0 e)).size + 1) (0 + k)
      have h2 := bytesRow_at ⟨l.toArray⟩ (grownCap w l.length 0 e) k (by simpa using hk')
      have h3 : w.drew.heap.size = w.heap.size := rfl
      rw [h3] at h1
      rw [h1, Nat.zero_add, h2]
      simp [hk', List.getD]
    · rw [List.getElem?_map] at hj
      cases hl2 : l[j]? with
      | none => rw [hl2] at hj; cases hj
      | some b =>
        rw [hl2] at hj
        simp only [Option.map_some, Option.some.injEq] at hj
        subst hj
        match q with
        | 0 =>
          simp only [u8, AV.cells, List.getElem?_cons_zero, Option.some.injEq] at hc
          subst hc
          simp only [Nat.mul_one, Nat.add_zero, List.getD, hl2, Option.getD_some]
          exact .i _ _
        | q + 1 => simp [u8, AV.cells] at hc

/-- The cells of a slice that reads. -/
theorem cont_cells {f : Phi} {st : St} {a : Act} {w : World} (hr : Rel f st a w) {v : Value} {x : AV} {xs : List AV} (h : R w f (owns f st.o) v x) (hc : cont st.o x = some xs) (z : Nat)
    (hz : ∀ y ∈ xs, y.cells.length = z) :
    ∃ ad c, v = .slice ad xs.length c ∧ xs.length ≤ c ∧ c ≤ maxLen ∧ (∀ y ∈ xs, ∀ c ∈ y.cells, c.good = true) ∧
      ((xs = [] ∨ z = 0) ∨ ∃ (a0 : Addr) (news : List Value), ad = some a0 ∧ news.length = xs.length * z ∧ (∀ j u, news[j]? = some u → w.cell? (a0.add j) = some u) ∧ El (R w f (owns f st.o)) z news xs) := by
  have row : ∀ (g lo len cap z' : Nat) (cur : Array Value) (e : TypeId) (ys : List AV), w.heap[g]? = some (.cells cur e (0, 0)) → El (R w f (owns f st.o)) z' cur.toList ys → lo + len ≤ ys.length →
      xs = (ys.drop lo).take len → 0 < xs.length → ∃ (news : List Value), news.length = xs.length * z ∧ (∀ j u, news[j]? = some u → w.cell? ((⟨g, lo * z', none⟩ : Addr).add j) = some u) ∧
        El (R w f (owns f st.o)) z news xs := by
    intro g lo len cap z' cur e ys hg hel hll hxs hpos
    have hlen : xs.length = len := by rw [hxs, List.length_take, List.length_drop]; omega
    have hzz : z' = z := by
      have h0 : xs[0]? = some xs[0] := List.getElem?_eq_getElem hpos
      have h1 := hz xs[0] (List.getElem_mem hpos)
      have hmem : ∀ y, y ∈ xs → y ∈ ys := by
        rw [hxs]
        exact fun y hy => List.mem_of_mem_drop (List.mem_of_mem_take hy)
      have h2 := hmem _ (List.getElem_mem hpos)
      rw [← h1]; exact (hel.zz _ h2).symm
    subst hzz
    have hle := hel.le
    have hm : (lo + len) * z' ≤ ys.length * z' := Nat.mul_le_mul_right _ hll
    rw [Nat.add_mul] at hm
    refine ⟨(cur.toList.drop (lo * z')).take (len * z'), by rw [List.length_take, List.length_drop, hlen]; omega, fun j u hj => ?_, fun y hy => ?_, ?_, fun j q y c hj hc => ?_⟩
    · rw [List.getElem?_take] at hj
      split at hj
      · rw [List.getElem?_drop] at hj
        rw [add_mk, cell_mk hg, ← Array.getElem?_toList]; exact hj
      · cases hj
    · exact hz y hy
    · rw [List.length_take, List.length_drop, hlen]; omega
    · rw [hxs, List.getElem?_take] at hj
      split at hj
      · rename_i hjl
        rw [List.getElem?_drop] at hj
        obtain ⟨v, hv, hrv⟩ := hel.at_ (lo + j) q y c hj hc
        obtain ⟨_, hq⟩ := hel.lt hj hc
        refine ⟨v, ?_, hrv⟩
        have : (j + 1) * z' ≤ len * z' := Nat.mul_le_mul_right _ hjl
        rw [Nat.add_mul] at this
        rw [List.getElem?_take, if_pos (by omega), List.getElem?_drop, ← hv]
        congr 1
        rw [Nat.add_mul]; omega
      · cases hj
  obtain ⟨ad, c, h1, h2, h3⟩ := cont_len hr h hc
  refine ⟨ad, c, h1, h2, h3, ?_⟩
  cases x with
  | nil => simp [cont] at hc; subst hc; exact ⟨fun y hy => by simp at hy, .inl (.inl rfl)⟩
  | e0 => simp [cont] at hc; subst hc; exact ⟨fun y hy => by simp at hy, .inl (.inl rfl)⟩
  | sl z' ys =>
    simp [cont] at hc; subst hc
    cases h with
    | sl ad' _ c' _ val h0 hcc hm hz' hp hcell hR =>
      cases h1
      refine ⟨hp, ?_⟩
      rcases Nat.eq_zero_or_pos ys.length with hn | hn
      · exact .inl (.inl (List.eq_nil_of_length_eq_zero hn))
      · have hzz : z' = z := by
          rw [← hz ys[0] (List.getElem_mem hn)]; exact (hz' _ (List.getElem_mem hn)).symm
        subst hzz
        obtain ⟨a0, ha0, _, _⟩ := hcell 0 (Nat.mul_pos hn h0)
        subst ha0
        have hget : ∀ (k : Nat) (u : Value), ((List.range (ys.length * z')).map val)[k]? = some u → k < ys.length * z' ∧ u = val k := by
          intro k u hk
          rw [List.getElem?_map] at hk
          cases hq : (List.range (ys.length * z'))[k]? with
          | none => rw [hq] at hk; cases hk
          | some j =>
            rw [hq] at hk
            obtain ⟨hj, hj2⟩ := List.getElem?_eq_some_iff.1 hq
            simp at hj hj2; subst hj2
            simp at hk; exact ⟨hj, hk.symm⟩
        refine .inr ⟨a0, (List.range (ys.length * z')).map val, rfl, by simp, fun j u hj => ?_, hz', by simp, fun j q y c hj hc => ?_⟩
        · obtain ⟨h4, rfl⟩ := hget j u hj
          obtain ⟨a1, ha1, _, h5⟩ := hcell j h4
          cases ha1; exact h5
        · have hj' := (List.getElem?_eq_some_iff.1 hj).1
          have hq : q < z' := by rw [← hz' y (List.mem_of_getElem? hj)]; exact (List.getElem?_eq_some_iff.1 hc).1
          have : (j + 1) * z' ≤ ys.length * z' := Nat.mul_le_mul_right _ hj'
          rw [Nat.add_mul] at this
          refine ⟨val (j * z' + q), ?_, hR j q y c hj hc⟩
          rw [List.getElem?_map, List.getElem?_range (by omega)]; rfl
  | own id =>
    simp only [cont] at hc
    split at hc
    · rename_i z' ys ho
      cases hc
      rcases Nat.eq_zero_or_pos xs.length with hn | hn
      · have := List.eq_nil_of_length_eq_zero hn; subst this
        exact ⟨fun y hy => by simp at hy, .inl (.inl rfl)⟩
      · obtain ⟨g, cap, cur, e, h4, h5, h6, h7, h8, h9, h10⟩ := arr_row (hr.o.at_ id _ ho) hn
        refine ⟨h10, .inr ?_⟩
        obtain ⟨news, n1, n2, n3⟩ := row g 0 xs.length cap z' cur e xs h5 h9 (by omega) (by simp) hn
        rw [Nat.zero_mul] at n2
        cases h with
        | own0 _ z'' h' => rw [h4] at h'; cases h'
        | own _ g' cap' z'' n' h' => rw [h4] at h'; cases h'; cases h1; exact ⟨_, news, rfl, n1, n2, n3⟩
    · cases hc
  | ref id lo len =>
    simp only [cont] at hc
    split at hc
    · rename_i z' ys ho
      cases hc
      have hll := (ref_len h (hr.o.at_ _ _ ho))
      obtain ⟨_, _, _, _, _, hll⟩ := hll
      rcases Nat.eq_zero_or_pos ((ys.drop lo).take len).length with hn | hn
      · have := List.eq_nil_of_length_eq_zero hn
        rw [this]; exact ⟨fun y hy => by simp at hy, .inl (.inl rfl)⟩
      · have hn' := hn
        rw [List.length_take, List.length_drop] at hn'
        obtain ⟨g, cap, cur, e, h4, h5, h6, h7, h8, h9, h10⟩ := arr_row (hr.o.at_ id _ ho) (by omega)
        refine ⟨fun y hy => h10 y (List.mem_of_mem_drop (List.mem_of_mem_take hy)), .inr ?_⟩
        obtain ⟨news, n1, n2, n3⟩ := row g lo len cap z' cur e ys h5 h9 hll rfl hn
        cases h with
        | ref0 _ z'' h' => rw [h4] at h'; cases h'
        | ref _ _ _ g' cap' z'' n' ad' h' hl hb =>
          rw [h4] at h'; cases h'
          have hb' := hb (by omega)
          subst hb'
          injection h1 with e1 e2 e3
          exact ⟨_, news, e1.symm, n1, n2, n3⟩
    · cases hc
  | _ => simp [cont] at hc

theorem gives_ofBytes (s d : Nat) (x : Operand) (hop : op.op = .convert s d x) (hT : T.Ok P) (ts td : TI) (hs : T s = some ts) (hd : T d = some td) (e : Nat) (hks : ts.k = .slice e) (hkd : td.k = .str)
    (te : TI) (he : T e = some te) (hke : te.k = .int .u8) (l : List UInt8) (hx : cont o (ρ x) = some (l.map u8)) (hl : l.length ≤ maxLen) (h : K (.s l) [] (idsC (ρ x))) : Gives P i op ρ o nx K := by
  refine gives_val _ _ h fun f st a w hr hev ho => ⟨.string ⟨l.toArray⟩, ?_, .s l hl⟩
  have h1 := hev x (by simp [hop, Op.operands])
  obtain ⟨ad, c, h2, _, _, _, h3⟩ := cont_cells hr h1 (by rw [cont_ids ho]; exact hx) 1 (fun y hy => (u8_cells l y hy).1)
  rw [List.length_map] at h2
  have hus := TI.Ok.und_slice hT hs hks
  have hud := TI.Ok.und_str hT hd hkd
  have hue := TI.Ok.und_int hT he hke
  rcases h3 with (h3 | h3) | ⟨a0, news, h3, h4, h5, h6⟩
  · have : l = [] := by simpa using h3
    subst this
    cases ad with
    | none => simp [execOp, hop, h2, convert, run_underlying hus, run_underlying hud, run_underlying hue, Conv.bytesToString]; rfl
    | some a0 =>
      have := run_convert_bytes_back (P := P) w s d e a0 c [] hus hue hud (fun j hj => by simp at hj)
      simp only [List.length_nil] at this
      simp [execOp, hop, h2, this]
  · omega
  · subst h3
    have := run_convert_bytes_back (P := P) w s d e a0 c l hus hue hud (fun j hj => by
      have hj' : (l.map u8)[j]? = some (u8 l[j]) := by rw [List.getElem?_map, List.getElem?_eq_getElem hj]; rfl
      obtain ⟨v, hv, hrv⟩ := h6.at_ j 0 (u8 l[j]) (.i .u8 l[j].toNat) hj' rfl
      rw [Nat.mul_one, Nat.add_zero] at hv
      rw [h5 j v hv, hrv.i_inv])
    simp [execOp, hop, h2, this]

end
end Go.Proofs.YtbknlijpkabcnaaGreat.K
