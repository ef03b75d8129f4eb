/- Books out of bytes: the reference. No condition. -/
import Derived.Test.YtbknlijpkabcnaaGreatP10
namespace Go.Proofs.YtbknlijpkabcnaaGreat.K
set_option linter.all false
open Go
open Classical

theorem fm1 {α β : Type} (f : α → β) (l : List α) : l.flatMap (fun r => [f r]) = l.map f := by
  induction l with
  | nil => rfl
  | cons x l ih => rw [List.flatMap_cons, ih]; rfl
theorem len2 {r : List Int} (h : r.length = 2) : ∃ a b, r = [a, b] := by
  match r, h with
  | [a, b], _ => exact ⟨a, b, rfl⟩
theorem len3 {r : List Int} (h : r.length = 3) : ∃ a b c, r = [a, b, c] := by
  match r, h with
  | [a, b, c], _ => exact ⟨a, b, c, rfl⟩
theorem len5 {r : List Int} (h : r.length = 5) : ∃ a b c d e, r = [a, b, c, d, e] := by
  match r, h with
  | [a, b, c, d, e], _ => exact ⟨a, b, c, d, e, rfl⟩
theorem len8 {r : List Int} (h : r.length = 8) : ∃ a b c d e f g i, r = [a, b, c, d, e, f, g, i] := by
  match r, h with
  | [a, b, c, d, e, f, g, i], _ => exact ⟨a, b, c, d, e, f, g, i, rfl⟩

section
variable {b : List UInt8} (y : List (List Int) × Int × Bool) (hy : y.1.length ≤ 1000)
  (k : (List MAccount) × (List MInstr) × (List MBal) × (List MLot) × (List MTrade) → Option ((List MAccount) × (List MInstr) × (List MBal) × (List MLot) × (List MTrade) × Int × Bool))
  (v1 : List MAccount) (v2 : List MInstr) (v3 : List MBal) (v4 : List MLot) (v5 : List MTrade)
include hy

theorem br0 (hr : ∀ r ∈ y.1, r.length = 2) (h1 : v1.length ≤ 1000) : s_BooksRead_L2 0 y k FUEL (v1, v2, v3, v4, v5, 0) = k (v1 ++ y.1.map cAcc, v2, v3, v4, v5) := by
  have := collect (l := y.1) (fun n s i => s_BooksRead_L2 0 y k n (s, v2, v3, v4, v5, i)) (fun r => [cAcc r]) 1 16 (fun s => k (s, v2, v3, v4, v5)) (by omega) (fun _ _ => Nat.le_refl _) (by omega) (fun n s i x hx hi => by
    obtain ⟨e1, e2, c1, c2⟩ := ixf hi (by omega)
    obtain ⟨p, q, rfl⟩ := len2 (hr x (List.mem_of_getElem? hx))
    rw [s_BooksRead_L2.eq_2, ln_map, if_pos c1, if_pos ⟨c2, c1⟩, e2, hx, Option.bind_some, if_pos rfl, e1]
    simp [cAcc]) (fun n s => by rw [s_BooksRead_L2.eq_2, ln_map, if_neg (by omega)]) v1 (by omega)
  simpa [fm1] using this
theorem br1 (hr : ∀ r ∈ y.1, r.length = 2) (h1 : v2.length ≤ 1000) : s_BooksRead_L2 1 y k FUEL (v1, v2, v3, v4, v5, 0) = k (v1, v2 ++ y.1.map cIns, v3, v4, v5) := by
  have := collect (l := y.1) (fun n s i => s_BooksRead_L2 1 y k n (v1, s, v3, v4, v5, i)) (fun r => [cIns r]) 1 16 (fun s => k (v1, s, v3, v4, v5)) (by omega) (fun _ _ => Nat.le_refl _) (by omega) (fun n s i x hx hi => by
    obtain ⟨e1, e2, c1, c2⟩ := ixf hi (by omega)
    obtain ⟨p, q, rfl⟩ := len2 (hr x (List.mem_of_getElem? hx))
    rw [s_BooksRead_L2.eq_2, ln_map, if_pos c1, if_pos ⟨c2, c1⟩, e2, hx, Option.bind_some, if_neg (by omega), if_pos rfl, e1]
    simp [cIns]) (fun n s => by rw [s_BooksRead_L2.eq_2, ln_map, if_neg (by omega)]) v2 (by omega)
  simpa [fm1] using this
theorem br2 (hr : ∀ r ∈ y.1, r.length = 3) (h1 : v3.length ≤ 1000) : s_BooksRead_L2 2 y k FUEL (v1, v2, v3, v4, v5, 0) = k (v1, v2, v3 ++ y.1.map cBal, v4, v5) := by
  have := collect (l := y.1) (fun n s i => s_BooksRead_L2 2 y k n (v1, v2, s, v4, v5, i)) (fun r => [cBal r]) 1 24 (fun s => k (v1, v2, s, v4, v5)) (by omega) (fun _ _ => Nat.le_refl _) (by omega) (fun n s i x hx hi => by
    obtain ⟨e1, e2, c1, c2⟩ := ixf hi (by omega)
    obtain ⟨p, q, r, rfl⟩ := len3 (hr x (List.mem_of_getElem? hx))
    rw [s_BooksRead_L2.eq_2, ln_map, if_pos c1, if_pos ⟨c2, c1⟩, e2, hx, Option.bind_some, if_neg (by omega), if_neg (by omega), if_pos rfl, e1]
    simp [cBal]) (fun n s => by rw [s_BooksRead_L2.eq_2, ln_map, if_neg (by omega)]) v3 (by omega)
  simpa [fm1] using this
theorem br3 (hr : ∀ r ∈ y.1, r.length = 5) (h1 : v4.length ≤ 1000) : s_BooksRead_L2 3 y k FUEL (v1, v2, v3, v4, v5, 0) = k (v1, v2, v3, v4 ++ y.1.map cLot, v5) := by
  have := collect (l := y.1) (fun n s i => s_BooksRead_L2 3 y k n (v1, v2, v3, s, v5, i)) (fun r => [cLot r]) 1 40 (fun s => k (v1, v2, v3, s, v5)) (by omega) (fun _ _ => Nat.le_refl _) (by omega) (fun n s i x hx hi => by
    obtain ⟨e1, e2, c1, c2⟩ := ixf hi (by omega)
    obtain ⟨p, q, r, t, u, rfl⟩ := len5 (hr x (List.mem_of_getElem? hx))
    rw [s_BooksRead_L2.eq_2, ln_map, if_pos c1, if_pos ⟨c2, c1⟩, e2, hx, Option.bind_some, if_neg (by omega), if_neg (by omega), if_neg (by omega), if_pos rfl, e1]
    simp [cLot]) (fun n s => by rw [s_BooksRead_L2.eq_2, ln_map, if_neg (by omega)]) v4 (by omega)
  simpa [fm1] using this
theorem br4 (hr : ∀ r ∈ y.1, r.length = 8) (h1 : v5.length ≤ 1000) : s_BooksRead_L2 4 y k FUEL (v1, v2, v3, v4, v5, 0) = k (v1, v2, v3, v4, v5 ++ y.1.map cTra) := by
  have := collect (l := y.1) (fun n s i => s_BooksRead_L2 4 y k n (v1, v2, v3, v4, s, i)) (fun r => [cTra r]) 1 64 (fun s => k (v1, v2, v3, v4, s)) (by omega) (fun _ _ => Nat.le_refl _) (by omega) (fun n s i x hx hi => by
    obtain ⟨e1, e2, c1, c2⟩ := ixf hi (by omega)
    obtain ⟨p, q, r, t, u, a, c, d, rfl⟩ := len8 (hr x (List.mem_of_getElem? hx))
    rw [s_BooksRead_L2.eq_2, ln_map, if_pos c1, if_pos ⟨c2, c1⟩, e2, hx, Option.bind_some, if_neg (by omega), if_neg (by omega), if_neg (by omega), if_neg (by omega), if_pos rfl, e1]
    simp [cTra]) (fun n s => by rw [s_BooksRead_L2.eq_2, ln_map, if_neg (by omega)]) v5 (by omega)
  simpa [fm1] using this
end

theorem sec_bd {b : List UInt8} {w : Nat} {most a : Int} {q : List (List Int) × Int} (hm : most ≤ 160) (h : sec b w most a = some q) : q.1.length ≤ 160 ∧ (∀ r ∈ q.1, r.length = w ∧ ∀ n ∈ r, inR n) ∧ 0 ≤ a ∧ a ≤ q.2 ∧ 0 ≤ q.2 ∧ q.2 ≤ b.length ∧
    (b.drop a.toNat).take (q.2 - a).toNat = enc q.1.length ++ encs q.1.flatten := by
  unfold sec at h
  cases hg : gn b a with
  | none => rw [hg] at h; cases h
  | some p =>
    obtain ⟨g1, g2, g3, g4, g5, g6, g7⟩ := gn_bd (v := p.1) (e := p.2) hg
    rw [hg, Option.bind_some] at h
    split at h
    · cases h
    · rename_i hp
      obtain ⟨r1, r2, r3, r4, r5⟩ := rdR_bd w _ p.2 q.1 q.2 h
      refine ⟨by omega, r2, g3, by omega, (r3 (by omega) g5).1, (r3 (by omega) g5).2, ?_⟩
      have e1 : (q.2 - a).toNat = (p.2 - a).toNat + (q.2 - p.2).toNat := by omega
      have e2 : (b.drop a.toNat).drop (p.2 - a).toNat = b.drop p.2.toNat := by rw [List.drop_drop]; congr 1; omega
      rw [e1, List.take_add, g7, e2, r5 (by omega), r1]

theorem s_BooksRead_eq (b : List UInt8) (hl : b.length < 1000000000) : s_BooksRead b = some (outT (bksO b)) := by
  have f6 : FUEL = (FUEL - 6) + 1 + 1 + 1 + 1 + 1 + 1 := by have := FUEL_gt (n := 100) (by omega); omega
  unfold s_BooksRead bksO parse
  generalize hK : (fun (x : List MAccount × List MInstr × List MBal × List MLot × List MTrade × Int) => match x with | (w346, w347, w348, w349, w350, w351) => (Option.bind (s_GetNum b w351) fun y352 => (if ¬ (y352.2.2 = true) then some (([] : List MAccount), ([] : List MInstr), ([] : List MBal), ([] : List MLot), ([] : List MTrade), (0 : Int), false) else (if y352.2.1 ≠ (ln (List.map u8 b)) then some ([], [], [], [], [], (0 : Int), false) else (Option.bind (s_BooksOk (MBooks.mk w346 w347 w348 w349 w350 y352.1)) fun y356 => (if ¬ (y356 = true) then some ([], [], [], [], [], (0 : Int), false) else some (w346, w347, w348, w349, w350, y352.1, true))))))) = K
  rw [f6]
  generalize FUEL - 6 = n
  have w1 : w64 ((0 : Int) + 1) = 1 := by rw [w64_id] <;> omega
  have w2 : w64 ((1 : Int) + 1) = 2 := by rw [w64_id] <;> omega
  have w3 : w64 ((2 : Int) + 1) = 3 := by rw [w64_id] <;> omega
  have w4 : w64 ((3 : Int) + 1) = 4 := by rw [w64_id] <;> omega
  have w5 : w64 ((4 : Int) + 1) = 5 := by rw [w64_id] <;> omega
  have lA : ln (List.map iv [(2 : Int), (2 : Int), (3 : Int), (5 : Int), (8 : Int)]) = 5 := rfl
  have lB : ln (List.map iv [(20 : Int), (8 : Int), (160 : Int), (120 : Int), (30 : Int)]) = 5 := rfl
  -- the first
  rw [s_BooksRead_L1.eq_2, if_pos (by omega), lA, lB, if_pos (by omega)]
  simp only [show Int.toNat 0 = 0 from rfl, List.getElem?_cons_zero, Option.bind_some]
  rw [if_pos (by omega)]
  obtain ⟨r1, h1, k1⟩ := s_l13Rows_eq hl 0 2 (by omega) 20 (by omega)
  rw [show ((2 : Nat) : Int) = 2 from rfl] at h1
  rw [h1, Option.bind_some]
  cases s1 : sec b 2 20 0 with
  | none => rw [s1] at k1; simp only at k1; rw [if_pos (by rw [k1]; simp)]; rfl
  | some q1 =>
  rw [s1] at k1; simp only at k1; subst k1
  obtain ⟨b11, b12, b13, b14, b15, b16, _⟩ := sec_bd (by omega) s1
  rw [if_neg (by simp), br0 _ (by simpa using (by omega : q1.1.length ≤ 1000)) _ _ _ _ _ _ (fun r hr => (b12 r hr).1) (by simp), Option.bind_some]
  simp only [List.nil_append, w1]
  -- the second
  rw [s_BooksRead_L1.eq_2, if_pos (by omega), lA, lB, if_pos (by omega)]
  simp only [show Int.toNat 1 = 1 from rfl, List.getElem?_cons_zero, List.getElem?_cons_succ, Option.bind_some]
  rw [if_pos (by omega)]
  obtain ⟨r2, h2, k2⟩ := s_l13Rows_eq hl q1.2 2 (by omega) 8 (by omega)
  rw [show ((2 : Nat) : Int) = 2 from rfl] at h2
  rw [h2, Option.bind_some]
  cases s2 : sec b 2 8 q1.2 with
  | none => rw [s2] at k2; simp only at k2; rw [if_pos (by rw [k2]; simp)]; rfl
  | some q2 =>
  rw [s2] at k2; simp only at k2; subst k2
  obtain ⟨b21, b22, b23, b24, b25, b26, _⟩ := sec_bd (by omega) s2
  rw [if_neg (by simp), br1 _ (by simpa using (by omega : q2.1.length ≤ 1000)) _ _ _ _ _ _ (fun r hr => (b22 r hr).1) (by simp), Option.bind_some]
  simp only [List.nil_append, w2]
  -- the third
  rw [s_BooksRead_L1.eq_2, if_pos (by omega), lA, lB, if_pos (by omega)]
  simp only [show Int.toNat 2 = 2 from rfl, List.getElem?_cons_zero, List.getElem?_cons_succ, Option.bind_some]
  rw [if_pos (by omega)]
  obtain ⟨r3, h3, k3⟩ := s_l13Rows_eq hl q2.2 3 (by omega) 160 (by omega)
  rw [show ((3 : Nat) : Int) = 3 from rfl] at h3
  rw [h3, Option.bind_some]
  cases s3 : sec b 3 160 q2.2 with
  | none => rw [s3] at k3; simp only at k3; rw [if_pos (by rw [k3]; simp)]; rfl
  | some q3 =>
  rw [s3] at k3; simp only at k3; subst k3
  obtain ⟨b31, b32, b33, b34, b35, b36, _⟩ := sec_bd (by omega) s3
  rw [if_neg (by simp), br2 _ (by simpa using (by omega : q3.1.length ≤ 1000)) _ _ _ _ _ _ (fun r hr => (b32 r hr).1) (by simp), Option.bind_some]
  simp only [List.nil_append, w3]
  -- the fourth
  rw [s_BooksRead_L1.eq_2, if_pos (by omega), lA, lB, if_pos (by omega)]
  simp only [show Int.toNat 3 = 3 from rfl, List.getElem?_cons_zero, List.getElem?_cons_succ, Option.bind_some]
  rw [if_pos (by omega)]
  obtain ⟨r4, h4, k4⟩ := s_l13Rows_eq hl q3.2 5 (by omega) 120 (by omega)
  rw [show ((5 : Nat) : Int) = 5 from rfl] at h4
  rw [h4, Option.bind_some]
  cases s4 : sec b 5 120 q3.2 with
  | none => rw [s4] at k4; simp only at k4; rw [if_pos (by rw [k4]; simp)]; rfl
  | some q4 =>
  rw [s4] at k4; simp only at k4; subst k4
  obtain ⟨b41, b42, b43, b44, b45, b46, _⟩ := sec_bd (by omega) s4
  rw [if_neg (by simp), br3 _ (by simpa using (by omega : q4.1.length ≤ 1000)) _ _ _ _ _ _ (fun r hr => (b42 r hr).1) (by simp), Option.bind_some]
  simp only [List.nil_append, w4]
  -- the fifth
  rw [s_BooksRead_L1.eq_2, if_pos (by omega), lA, lB, if_pos (by omega)]
  simp only [show Int.toNat 4 = 4 from rfl, List.getElem?_cons_zero, List.getElem?_cons_succ, Option.bind_some]
  rw [if_pos (by omega)]
  obtain ⟨r5, h5, k5⟩ := s_l13Rows_eq hl q4.2 8 (by omega) 30 (by omega)
  rw [show ((8 : Nat) : Int) = 8 from rfl] at h5
  rw [h5, Option.bind_some]
  cases s5 : sec b 8 30 q4.2 with
  | none => rw [s5] at k5; simp only at k5; rw [if_pos (by rw [k5]; simp)]; rfl
  | some q5 =>
  rw [s5] at k5; simp only at k5; subst k5
  obtain ⟨b51, b52, b53, b54, b55, b56, _⟩ := sec_bd (by omega) s5
  rw [if_neg (by simp), br4 _ (by simpa using (by omega : q5.1.length ≤ 1000)) _ _ _ _ _ _ (fun r hr => (b52 r hr).1) (by simp), Option.bind_some]
  simp only [List.nil_append, w5]
  rw [s_BooksRead_L1.eq_2, if_neg (by omega), ← hK]
  simp only [ln_map]
  rw [s_GetNum_eq b _ hl, Option.bind_some]
  unfold gnT
  cases hg : gn b q5.2 with
  | none => simp [outT]
  | some p =>
    simp only [not_true_eq_false, if_false, Option.bind_some]
    have hsm : SMB ⟨q1.1.map cAcc, q2.1.map cIns, q3.1.map cBal, q4.1.map cLot, q5.1.map cTra, p.1⟩ := by
      refine ⟨?_, ?_, ?_, ?_, ?_⟩ <;> simp only [List.length_map] <;> omega
    rw [s_BooksOk_eq hsm, Option.bind_some]
    by_cases hp : p.2 = (b.length : Int)
    · by_cases hb : BkOk ⟨q1.1.map cAcc, q2.1.map cIns, q3.1.map cBal, q4.1.map cLot, q5.1.map cTra, p.1⟩
      · rw [if_neg (fun h => h hp), decide_eq_true hb, if_neg (by simp), if_pos ⟨hp, hb⟩]; rfl
      · rw [if_neg (fun h => h hp), decide_eq_false hb, if_pos (by simp), if_neg (fun h => hb h.2)]; rfl
    · rw [if_pos hp, if_neg (fun h => hp h.1)]; rfl

end Go.Proofs.YtbknlijpkabcnaaGreat.K
