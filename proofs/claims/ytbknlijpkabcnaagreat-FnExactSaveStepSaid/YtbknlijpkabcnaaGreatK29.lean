/- What slices.Insert does to the objects that it is handed. No condition. -/
import Derived.Test.YtbknlijpkabcnaaGreatK28
import Derived.Laws.CopyRow
import Derived.Lib.AppendZerosOnto
namespace Go.Proofs.YtbknlijpkabcnaaGreat.K
set_option linter.all false
open Go

theorem El.drop {α : Type} {r : α → AV → Prop} {z : Nat} {cur : List α} {xs : List AV} (h : El r z cur xs) (n : Nat) (hn : n ≤ xs.length) :
    El r z ((cur.drop (n * z)).take ((xs.length - n) * z)) (xs.drop n) := by
  have hle := h.le
  have h1 : n * z ≤ xs.length * z := Nat.mul_le_mul_right z hn
  have h2 : (xs.length - n) * z = xs.length * z - n * z := Nat.sub_mul ..
  refine ⟨fun y hy => h.zz y (List.mem_of_mem_drop hy), by rw [List.length_take, List.length_drop, List.length_drop]; omega, fun j i y c hy hc => ?_⟩
  rw [List.getElem?_drop] at hy
  obtain ⟨hj, hi⟩ := h.lt hy hc
  obtain ⟨v, hv, hr⟩ := h.at_ _ i y c hy hc
  refine ⟨v, ?_, hr⟩
  have e1 : (n + j) * z + i = n * z + (j * z + i) := by rw [Nat.add_mul]; omega
  have e2 : (n + j + 1) * z ≤ xs.length * z := Nat.mul_le_mul_right z hj
  rw [Nat.add_mul, Nat.add_mul] at e2
  rw [List.getElem?_take, if_pos (by omega), List.getElem?_drop, ← e1]; exact hv

theorem El.one {w : World} {φ : Phi} {own : Nat → Prop} {z : Nat} {news : List Value} {ys : List AV} (h : El (R w φ own) z news ys) (hl : news.length = ys.length * z) (h0 : 0 < z)
    (hg : ∀ y ∈ ys, ∀ c ∈ y.cells, c.good = true) : ∀ u ∈ news, u.oneCell' = true := by
  intro u hu
  obtain ⟨k, hk, rfl⟩ := List.mem_iff_getElem.1 hu
  rw [hl] at hk
  have hj : k / z < ys.length := (Nat.div_lt_iff_lt_mul h0).2 hk
  have hq : k % z < z := Nat.mod_lt _ h0
  have hy : ys[k / z]? = some ys[k / z] := List.getElem?_eq_getElem hj
  have hcl := h.zz ys[k / z] (List.getElem_mem hj)
  obtain ⟨u, hu1, hu2⟩ := h.at_ (k / z) (k % z) ys[k / z] (ys[k / z].cells[k % z]'(by omega)) hy (List.getElem?_eq_getElem (by omega))
  have e : k / z * z + k % z = k := by rw [Nat.mul_comm]; exact Nat.div_add_mod k z
  rw [e] at hu1
  have : news[k]? = some news[k] := List.getElem?_eq_getElem (by rw [hl]; exact hk)
  rw [this] at hu1
  cases hu1
  exact hu2.one (AV.good.one (hg _ (List.getElem_mem hj) _ (List.getElem_mem (by omega))))

theorem own_inv {w : World} {φ : Phi} {own : Nat → Prop} {v : Value} {id : Nat} (h : R w φ own v (.own id)) :
    (∃ z, v = .slice none 0 0 ∧ φ id = some ⟨none, 0, z, 0⟩) ∨ ∃ g cap z n, v = .slice (some ⟨g, 0, none⟩) n cap ∧ φ id = some ⟨some g, cap, z, n⟩ := by
  cases h with
  | own0 id z h => exact .inl ⟨z, rfl, h⟩
  | own id g cap z n h => exact .inr ⟨g, cap, z, n, rfl, h⟩

/-- An object that is a row, with the slice that names it. -/
theorem arr_inv {w : World} {φ : Phi} {own : Nat → Prop} {v : Value} {id z : Nat} {xs : List AV} (h : R w φ own v (.own id)) (ha : ObjAt w φ own id (.arr z xs)) : 0 < z ∧
    ((v = .slice none 0 0 ∧ xs = []) ∨ ∃ g cap cur e, v = .slice (some ⟨g, 0, none⟩) xs.length cap ∧ φ id = some ⟨some g, cap, z, xs.length⟩ ∧ w.heap[g]? = some (.cells cur e (0, 0)) ∧ cur.size = cap * z ∧ xs.length ≤ cap ∧ cap ≤ maxLen ∧
      El (R w φ own) z cur.toList xs ∧ (∀ x ∈ xs, ∀ c ∈ x.cells, c.good = true)) := by
  obtain ⟨h0, h1⟩ := ha
  refine ⟨h0, ?_⟩
  rcases h1 with ⟨h1, h2⟩ | ⟨g, cap, cur, e, h1, h2, h3, h4, h5, h6, h7, h8⟩
  · rcases own_inv h with ⟨z', hv, hz⟩ | ⟨g, cap, z', n, hv, hz⟩
    · exact .inl ⟨hv, h2⟩
    · rw [h1] at hz; cases hz
  · rcases own_inv h with ⟨z', hv, hz⟩ | ⟨g', cap', z', n, hv, hz⟩
    · rw [h1] at hz; cases hz
    · rw [h1] at hz; cases hz
      refine .inr ⟨g, cap, cur, e, hv, h1, h2, h3, h4, h5, ⟨h6, ?_, fun j q y d hj hd => ?_⟩, h7⟩
      · show xs.length * z ≤ cur.size
        rw [h3]; exact Nat.mul_le_mul_right _ h4
      · obtain ⟨u, hu, hr⟩ := h8 j q y d hj hd
        exact ⟨u, by simpa using hu, hr⟩

/-- What stands behind a call that hands back one row in the place of two. -/
theorem ins_post {φ : Phi} {w : World} {A0 A1 : AObj} (ho : ORel φ (fun j => [A0, A1][j]?) w) (hx : ∀ g, φ.x g → g < w.heap.size) (hj : ∀ j, 2 ≤ j → φ j = none) (w' : World) (g cap z : Nat) (C : Array Value) (e : TypeId) (zs : List AV)
    (hz0 : 0 < z) (hh : w'.heap[g]? = some (.cells C e (0, 0))) (hC : C.size = cap * z) (hlen : zs.length ≤ cap) (hcm : cap ≤ maxLen) (hgood : ∀ x ∈ zs, ∀ c ∈ x.cells, c.good = true)
    (hel : El (R w φ (owns φ fun j => [A0, A1][j]?)) z C.toList zs) (hsize : w.heap.size ≤ w'.heap.size) (hoth : ∀ k, k < w.heap.size → k ≠ g → w'.heap[k]? = w.heap[k]?) (hos : w'.os = w.os) (htp : w'.tape = w.tape) (hout : w'.output = w.output)
    (hg : (∃ l, φ 0 = some l ∧ l.blk = some g) ∨ w.heap.size ≤ g) :
    ∃ φ' : Phi, φ.le φ' ∧ ORel φ' (fun j => ([none, none, some (.arr z zs)][j]?).join) w' ∧ R w' φ' (owns φ' fun j => ([none, none, some (AObj.arr z zs)][j]?).join) (.slice (some ⟨g, 0, none⟩) zs.length cap) (.own 2) ∧
      Fr w (live φ fun j => [A0, A1][j]?) w' (live φ' fun j => ([none, none, some (AObj.arr z zs)][j]?).join) ∧ ∀ j, 3 ≤ j → φ' j = none := by
  have hlg : live φ (fun j => [A0, A1][j]?) g ∨ w.heap.size ≤ g := hg.imp (fun ⟨l, h1, h2⟩ => ⟨0, A0, l, rfl, h1, h2⟩) id
  have hle := putPhi_le φ 2 ⟨some g, cap, z, zs.length⟩ (hj 2 (Nat.le_refl _))
  have hlive : ∀ k, live (putPhi φ 2 ⟨some g, cap, z, zs.length⟩) (fun j => ([none, none, some (AObj.arr z zs)][j]?).join) k → k = g := by
    rintro k ⟨id, ob, l, h1, h2, h3⟩
    match id, h1, h2 with
    | 0, h1, _ => simp at h1
    | 1, h1, _ => simp at h1
    | 2, _, h2 => rw [putPhi_self] at h2; cases h2; cases h3; rfl
    | id + 3, h1, _ => simp at h1
  have hfr : Fr w (live φ fun j => [A0, A1][j]?) w' (live (putPhi φ 2 ⟨some g, cap, z, zs.length⟩) fun j => ([none, none, some (AObj.arr z zs)][j]?).join) := by
    refine ⟨hsize, fun k hk hn => ?_, fun k hk => ?_, hos, htp, hout⟩
    · refine hoth k hk fun e => ?_
      subst e
      exact hlg.elim hn fun h => absurd hk (Nat.not_lt.2 h)
    · rw [hlive k hk]; exact hlg
  have hkk : Keeps w (owns φ fun j => [A0, A1][j]?) w' (owns (putPhi φ 2 ⟨some g, cap, z, zs.length⟩) fun j => ([none, none, some (AObj.arr z zs)][j]?).join) := hfr.keepsX rfl
  refine ⟨_, hle, ⟨fun id ob hob => ?_, fun k hk => ?_, fun id id' ob ob' l l' k h1 h2 h3 h4 h5 h6 => ?_⟩, .own _ _ _ _ _ (putPhi_self _ _ _), hfr, fun j hj' => ?_⟩
  · match id, hob with
    | 0, h1 => simp at h1
    | 1, h1 => simp at h1
    | 2, h1 =>
      obtain rfl : AObj.arr z zs = ob := by simpa using h1
      refine ⟨hz0, .inr ⟨g, cap, C, e, putPhi_self _ _ _, hh, hC, hlen, hcm, hel.zz, hgood, fun j q x d hj hd => ?_⟩⟩
      obtain ⟨u, hu, hr⟩ := hel.at_ j q x d hj hd
      exact ⟨u, by rw [← Array.getElem?_toList]; exact hu, hr.mono hle hkk⟩
    | id + 3, h1 => simp at h1
  · rw [hlive k hk]
    intro hxg
    rcases hlg with h | h
    · exact ho.xd g h hxg
    · exact absurd (hx g hxg) (Nat.not_lt.2 h)
  · have f2 : ∀ (n : Nat) (b : AObj), (([none, none, some (AObj.arr z zs)] : List (Option AObj))[n]?).join = some b → n = 2 := by
      intro n b hn
      match n, hn with
      | 0, h1 => simp at h1
      | 1, h1 => simp at h1
      | 2, _ => rfl
      | n + 3, h1 => simp at h1
    rw [f2 id ob h1, f2 id' ob' h2]
  · rw [putPhi_ne _ _ _ (by omega)]; exact hj j (by omega)

/-- copy, to a row, of elements of any size. -/
theorem run_copy_rowz {P : Program} (w : World) (dT sT ty elem z : Nat) (g o dLen dCap : Nat) (a : Addr) (sLen sCap m : Nat) (cur : Array Value) (t : TypeId) (cs : List Value)
    (hu : P.underlying dT = some (.slice elem)) (hs : (P.info? elem).map (·.size) = some z) (hg : w.heap[g]? = some (.cells cur t (0, 0))) (hm : Nat.min sLen dLen = m) (hn : cs.length = m * z)
    (hsrc : ∀ j v, cs[j]? = some v → w.cell? (a.add j) = some v) (hfit : o + cs.length ≤ cur.size) (h1 : ∀ v ∈ cs, v.oneCell' = true) :
    (Builtin.copy_ #[dT, sT] ty #[.slice (some ⟨g, o, none⟩) dLen dCap, .slice (some a) sLen sCap]).run P w =
      .ok (goInt m) (w.setRow g (cur.toList.take o ++ cs ++ cur.toList.drop (o + cs.length)).toArray) := by
  have hl := run_loadCells_list (P := P) w a cs hsrc
  have hst := run_storeCells_at P g o t cs 0 cur w hg (by simpa using hfit) h1
  rw [Nat.add_zero] at hst
  rw [hn] at hl
  cases hq : P.info? elem with
  | none => simp [hq] at hs
  | some i =>
    have hi : i.size = z := by simpa [hq] using hs
    simp [Builtin.copy_, run_underlying hu, Builtin.lenOf, Builtin.firstCells, sizeOf, typeInfo, hq, hi, hm, hl, hst]

end Go.Proofs.YtbknlijpkabcnaaGreat.K
