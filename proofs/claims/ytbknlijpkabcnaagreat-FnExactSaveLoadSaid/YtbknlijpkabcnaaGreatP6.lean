/- Numbers as bytes. No condition. -/
import Derived.Test.YtbknlijpkabcnaaGreatP5
namespace Go.Proofs.YtbknlijpkabcnaaGreat.K
set_option linter.all false
open Go
open Classical

/-- A number out of bytes, at most m of them: the number, and how many bytes it took. -/
def dec : Bool → Nat → List UInt8 → Option (Nat × Nat)
  | _, 0, _ => none
  | _, _ + 1, [] => none
  | first, m + 1, c :: s => if c.toNat < 128 then (if c.toNat = 0 ∧ first = false then none else some (c.toNat, 1)) else (dec false m s).map fun p => (c.toNat - 128 + 128 * p.1, p.2 + 1)

theorem dec_bd : ∀ (f : Bool) (m : Nat) (s : List UInt8) (v l : Nat), dec f m s = some (v, l) → v < 128 ^ l ∧ 0 < l ∧ l ≤ m ∧ l ≤ s.length
  | _, 0, s, v, l, h => by cases h
  | _, _ + 1, [], v, l, h => by cases h
  | f, m + 1, c :: s, v, l, h => by
    simp only [dec] at h
    split at h
    · split at h
      · cases h
      · cases h; refine ⟨by omega, by omega, by omega, by simp⟩
    · cases hd : dec false m s with
      | none => rw [hd] at h; cases h
      | some p =>
        rw [hd] at h
        simp only [Option.map_some, Option.some.injEq, Prod.mk.injEq] at h
        obtain ⟨h1, h2, h3, h4⟩ := dec_bd false m s p.1 p.2 hd
        obtain ⟨rfl, rfl⟩ := h
        have := c.toNat_lt
        refine ⟨?_, by omega, by omega, by simp; omega⟩
        rw [Nat.pow_succ]; omega

/-- GetNum. -/
def gn (b : List UInt8) (at_ : Int) : Option (Int × Int) :=
  if 0 ≤ at_ ∧ at_ < b.length then (dec true 9 (b.drop at_.toNat)).map fun p => ((p.1 : Int), at_ + p.2) else none
def gnT (b : List UInt8) (at_ : Int) : Int × Int × Bool := match gn b at_ with
  | some p => (p.1, p.2, true)
  | none => (0, 0, false)

theorem pow128 (k l : Nat) (h : k + l ≤ 9) : 128 ^ (k + l) ≤ 9223372036854775808 :=
  Nat.le_trans (Nat.pow_le_pow_right (by omega) h) (by decide)

theorem band_127 (n : Nat) (h : n < 256) : band .i64 (n : Int) 127 = ((n % 128 : Nat) : Int) := by
  have e : ∀ n : Fin 256, (BitVec.ofInt 64 (n.val : Int) &&& BitVec.ofInt 64 127).toNat = n.val % 128 := by decide +kernel
  unfold band bitOp
  rw [show (IntKind.i64.bits) = 64 from rfl]
  rw [e ⟨n, h⟩]
  exact w64_id (by omega) (by omega)

theorem bor_add (a v k : Nat) (ha : a < 128 ^ k) (hv : v < 128) (hk : k < 9) : bor .i64 (a : Int) ((v * 128 ^ k : Nat) : Int) = ((a + v * 128 ^ k : Nat) : Int) := by
  have hp : 128 ^ k = 2 ^ (7 * k) := by rw [show (128 : Nat) = 2 ^ 7 from rfl, ← Nat.pow_mul]
  have h63 : 128 ^ (k + 1) ≤ 9223372036854775808 := pow128 k 1 (by omega)
  have hs : v * 128 ^ k + 128 ^ k ≤ 128 ^ (k + 1) := by
    rw [Nat.pow_succ, Nat.mul_comm (128 ^ k) 128, ← Nat.succ_mul]; exact Nat.mul_le_mul_right _ hv
  unfold bor bitOp
  rw [show (IntKind.i64.bits) = 64 from rfl]
  have e1 : (BitVec.ofInt 64 (a : Int)) = BitVec.ofNat 64 a := by rw [BitVec.ofInt_natCast]
  have e2 : (BitVec.ofInt 64 ((v * 128 ^ k : Nat) : Int)) = BitVec.ofNat 64 (v * 128 ^ k) := by rw [BitVec.ofInt_natCast]
  rw [e1, e2, BitVec.toNat_or, BitVec.toNat_ofNat, BitVec.toNat_ofNat, Nat.mod_eq_of_lt (by omega), Nat.mod_eq_of_lt (by omega)]
  have e3 : a ||| v * 128 ^ k = a + v * 128 ^ k := by
    rw [hp] at ha ⊢
    have := Nat.shiftLeft_add_eq_or_of_lt ha v
    rw [Nat.shiftLeft_eq] at this
    rw [Nat.or_comm, ← this, Nat.add_comm]
  rw [e3]
  exact w64_id (by omega) (by omega)

theorem bnw (x : UInt8) : w64 (bn x) = (x.toNat : Int) := w64_id (by have := bn_nn x; omega) (by have := bn_lt x; omega)

theorem dropc {b : List UInt8} {p : Nat} (h : p < b.length) : b.drop p = b[p] :: b.drop (p + 1) := List.drop_eq_getElem_cons h

theorem s_GetNum_L1_eq (b : List UInt8) (a : Nat) (hl : b.length < 1000000000) : ∀ n (k x : Nat), a + k ≤ b.length + 9 → k ≤ 9 → 9 - k < n → x < 128 ^ k →
    s_GetNum_L1 b (a : Int) (fun _ => some (0, 0, false)) n ((x : Int), (if k < 9 then ((128 ^ k : Nat) : Int) else w64 ((128 ^ 8 : Nat) * 128)), (k : Int)) =
      some (match dec (decide (k = 0)) (9 - k) (b.drop (a + k)) with | some p => (((x + 128 ^ k * p.1 : Nat) : Int), ((a + k + p.2 : Nat) : Int), true) | none => (0, 0, false)) := by
  intro n
  induction n with
  | zero => intro k x _ _ h; omega
  | succ n ih =>
    intro k x hk hk9 hn hx
    rw [s_GetNum_L1.eq_2]
    by_cases h9 : k < 9
    · have e1 : w64 ((a : Int) + (k : Int)) = ((a + k : Nat) : Int) := by rw [w64_id] <;> omega
      have c1 : (k : Int) < 9 := by omega
      by_cases hlt : a + k < b.length
      · have c2 : ((a + k : Nat) : Int) < (b.length : Int) := by omega
        have c3 : (0 : Int) ≤ ((a + k : Nat) : Int) := by omega
        have e2 : Int.toNat ((a + k : Nat) : Int) = a + k := by omega
        have hbx : b[a + k]? = some b[a + k] := List.getElem?_eq_getElem hlt
        have e3 : 9 - k = (8 - k) + 1 := by omega
        rw [dropc hlt, e3]
        generalize b[a + k] = c at hbx
        have hc := c.toNat_lt
        have p1 := pow128 k 1 (by omega)
        have hs : (c.toNat % 128) * 128 ^ k + 128 ^ k ≤ 128 ^ (k + 1) := by
          rw [Nat.pow_succ, Nat.mul_comm (128 ^ k) 128, ← Nat.succ_mul]; exact Nat.mul_le_mul_right _ (by omega)
        have e4 : w64 ((Int.tmod (c.toNat : Int) 128) * ((128 ^ k : Nat) : Int)) = (((c.toNat % 128) * 128 ^ k : Nat) : Int) := by
          rw [show Int.tmod (c.toNat : Int) 128 = ((c.toNat % 128 : Nat) : Int) from rfl, ← Int.natCast_mul]
          exact w64_id (by omega) (by omega)
        have e5 : w64 ((x : Int) + (((c.toNat % 128) * 128 ^ k : Nat) : Int)) = ((x + (c.toNat % 128) * 128 ^ k : Nat) : Int) := by
          rw [← Int.natCast_add]; exact w64_id (by omega) (by omega)
        have e6 : w64 (((a + k : Nat) : Int) + 1) = ((a + k + 1 : Nat) : Int) := by rw [w64_id] <;> omega
        simp only [c1, e1, ln_map, c2, c3, if_true, e2, hbx, Option.bind_some, bnw, h9, e4, e5, e6]
        by_cases hc1 : c.toNat < 128
        · have d1 : (c.toNat : Int) < 128 := by omega
          have hm : c.toNat % 128 = c.toNat := Nat.mod_eq_of_lt hc1
          simp only [d1, if_true, dec, hc1, hm]
          by_cases hz : c.toNat = 0
          · have d2 : (c.toNat : Int) = 0 := by omega
            by_cases hk0 : k = 0
            · have d3 : ¬ ((0 : Int) < (k : Int)) := by omega
              simp [d2, hz, hk0]
            · have d3 : (0 : Int) < (k : Int) := by omega
              simp [d2, d3, hz, hk0]
          · have d2 : ¬ ((c.toNat : Int) = 0) := by omega
            simp [d2, hz, Nat.mul_comm]
        · have d1 : ¬ ((c.toNat : Int) < 128) := by omega
          have hm : c.toNat % 128 = c.toNat - 128 := by omega
          have e7 : w64 (((k : Nat) : Int) + 1) = ((k + 1 : Nat) : Int) := by rw [w64_id] <;> omega
          have e8 : w64 (((128 ^ k : Nat) : Int) * 128) = if k + 1 < 9 then ((128 ^ (k + 1) : Nat) : Int) else w64 ((128 ^ 8 : Nat) * 128) := by
            split
            · have p2 := pow128 (k + 1) 1 (by omega)
              have : 128 ^ (k + 1) < 9223372036854775808 := by rw [Nat.pow_succ] at p2; omega
              rw [show (((128 ^ k : Nat) : Int) * 128) = ((128 ^ (k + 1) : Nat) : Int) by rw [Nat.pow_succ]; push_cast; rfl]
              exact w64_id (by omega) (by omega)
            · have : k = 8 := by omega
              subst this; rfl
          have IH := ih (k + 1) (x + (c.toNat % 128) * 128 ^ k) (by omega) (by omega) (by omega) (by omega)
          simp only [d1, if_false, e7, e8, IH, dec, hc1, show (decide (k + 1 = 0)) = false from rfl, show 9 - (k + 1) = 8 - k by omega, show a + (k + 1) = a + k + 1 by omega]
          cases hd : dec false (8 - k) (b.drop (a + k + 1)) with
          | none => rfl
          | some p =>
            simp only [Option.map_some, hm]
            congr 2
            · rw [Nat.pow_succ]
              have : (x + (c.toNat - 128) * 128 ^ k + 128 ^ k * 128 * p.1) = (x + 128 ^ k * (c.toNat - 128 + 128 * p.1)) := by
                rw [Nat.mul_add, Nat.mul_comm (c.toNat - 128), Nat.mul_assoc, Nat.add_assoc]
              rw [this]
            · congr 1; omega
      · have c2 : ¬ (((a + k : Nat) : Int) < (b.length : Int)) := by omega
        have e3 : 9 - k = (8 - k) + 1 := by omega
        rw [List.drop_eq_nil_of_le (by omega), e3]
        simp only [c1, e1, ln_map, c2, if_true, if_false, dec]
    · have : k = 9 := by omega
      subst this
      have c1 : ¬ (((9 : Nat) : Int) < 9) := by omega
      simp only [c1, if_false, Nat.sub_self, dec]

theorem s_GetNum_eq (b : List UInt8) (a : Int) (hl : b.length < 1000000000) : s_GetNum b a = some (gnT b a) := by
  unfold s_GetNum gnT gn
  by_cases h0 : a < 0
  · have : ¬ (0 ≤ a ∧ a < b.length) := by omega
    rw [if_pos h0, if_neg this]
  · rw [if_neg h0, ln_map]
    by_cases h1 : (b.length : Int) ≤ a
    · have : ¬ (0 ≤ a ∧ a < b.length) := by omega
      rw [if_pos h1, if_neg this]
    · have : 0 ≤ a ∧ a < b.length := by omega
      rw [if_neg h1, if_pos this]
      obtain ⟨m, rfl⟩ := Int.eq_ofNat_of_zero_le this.1
      have h := s_GetNum_L1_eq b m hl FUEL 0 0 (by omega) (by omega) (FUEL_gt (by omega)) (by omega)
      simp only [show (0 : Nat) < 9 by omega, if_true, Nat.pow_zero, Nat.sub_zero, Nat.add_zero, decide_true, Nat.zero_add, Nat.one_mul] at h
      rw [show ((1 : Nat) : Int) = 1 from rfl, show ((0 : Nat) : Int) = 0 from rfl] at h
      rw [h]
      simp only [Int.toNat_natCast]
      cases dec true 9 (b.drop m) with
      | none => rfl
      | some p => simp

theorem i_GetNum_L1_eq (b : List UInt8) (a : Nat) (hl : b.length < 1000000000) : ∀ n (k x : Nat), a + k ≤ b.length + 9 → k ≤ 9 → 9 - k < n → x < 128 ^ k →
    i_GetNum_L1 b (a : Int) (fun _ => some (0, 0, false)) n ((x : Int), (k : Int)) =
      some (match dec (decide (k = 0)) (9 - k) (b.drop (a + k)) with | some p => (((x + 128 ^ k * p.1 : Nat) : Int), ((a + k + p.2 : Nat) : Int), true) | none => (0, 0, false)) := by
  intro n
  induction n with
  | zero => intro k x _ _ h; omega
  | succ n ih =>
    intro k x hk hk9 hn hx
    rw [i_GetNum_L1.eq_2]
    by_cases h9 : k < 9
    · have e1 : w64 ((a : Int) + (k : Int)) = ((a + k : Nat) : Int) := by rw [w64_id] <;> omega
      have c1 : (k : Int) < 9 := by omega
      by_cases hlt : a + k < b.length
      · have c2 : ((a + k : Nat) : Int) < (b.length : Int) := by omega
        have c3 : (0 : Int) ≤ ((a + k : Nat) : Int) := by omega
        have e2 : Int.toNat ((a + k : Nat) : Int) = a + k := by omega
        have hbx : b[a + k]? = some b[a + k] := List.getElem?_eq_getElem hlt
        have e3 : 9 - k = (8 - k) + 1 := by omega
        rw [dropc hlt, e3]
        generalize b[a + k] = c at hbx
        have hc := c.toNat_lt
        have p1 := pow128 k 1 (by omega)
        have hs : (c.toNat % 128) * 128 ^ k + 128 ^ k ≤ 128 ^ (k + 1) := by
          rw [Nat.pow_succ, Nat.mul_comm (128 ^ k) 128, ← Nat.succ_mul]; exact Nat.mul_le_mul_right _ (by omega)
        have e9 : w64 (7 * (k : Int)) = ((7 * k : Nat) : Int) := by rw [w64_id] <;> omega
        have c4 : (0 : Int) ≤ ((7 * k : Nat) : Int) := by omega
        have e10 : min (Int.toNat ((7 * k : Nat) : Int)) (IntKind.bits .i64) = 7 * k := by rw [Int.toNat_natCast, show IntKind.bits .i64 = 64 from rfl]; omega
        have e4 : w64 ((((c.toNat % 128 : Nat)) : Int) * 2 ^ (7 * k)) = (((c.toNat % 128) * 128 ^ k : Nat) : Int) := by
          have : (((c.toNat % 128 : Nat)) : Int) * 2 ^ (7 * k) = (((c.toNat % 128) * 128 ^ k : Nat) : Int) := by
            rw [show (128 : Nat) = 2 ^ 7 from rfl, ← Nat.pow_mul, Int.natCast_mul, Int.natCast_pow]; rfl
          rw [this]
          exact w64_id (by omega) (by omega)
        have e5 := bor_add x (c.toNat % 128) k hx (by omega) h9
        have e6 : w64 (((a + k : Nat) : Int) + 1) = ((a + k + 1 : Nat) : Int) := by rw [w64_id] <;> omega
        simp only [c1, e1, ln_map, c2, c3, if_true, e2, hbx, Option.bind_some, bnw, band_127 _ hc, e9, c4, e10, e4, e5, e6]
        by_cases hc1 : c.toNat < 128
        · have d1 : ¬ ((127 : Int) < (c.toNat : Int)) := by omega
          have hm : c.toNat % 128 = c.toNat := Nat.mod_eq_of_lt hc1
          simp only [d1, if_false, dec, hc1, hm, if_true]
          by_cases hz : c.toNat = 0
          · have d2 : (c.toNat : Int) = 0 := by omega
            by_cases hk0 : k = 0
            · have d3 : ¬ ((0 : Int) < (k : Int)) := by omega
              simp [d2, hz, hk0]
            · have d3 : (0 : Int) < (k : Int) := by omega
              simp [d2, d3, hz, hk0]
          · have d2 : ¬ ((c.toNat : Int) = 0) := by omega
            simp [d2, hz, Nat.mul_comm]
        · have d1 : (127 : Int) < (c.toNat : Int) := by omega
          have hm : c.toNat % 128 = c.toNat - 128 := by omega
          have e7 : w64 (((k : Nat) : Int) + 1) = ((k + 1 : Nat) : Int) := by rw [w64_id] <;> omega
          have IH := ih (k + 1) (x + (c.toNat % 128) * 128 ^ k) (by omega) (by omega) (by omega) (by omega)
          simp only [d1, if_true, if_false, e7, IH, dec, hc1, show (decide (k + 1 = 0)) = false from rfl, show 9 - (k + 1) = 8 - k by omega, show a + (k + 1) = a + k + 1 by omega]
          cases hd : dec false (8 - k) (b.drop (a + k + 1)) with
          | none => rfl
          | some p =>
            simp only [Option.map_some, hm]
            congr 2
            · rw [Nat.pow_succ]
              have : (x + (c.toNat - 128) * 128 ^ k + 128 ^ k * 128 * p.1) = (x + 128 ^ k * (c.toNat - 128 + 128 * p.1)) := by
                rw [Nat.mul_add, Nat.mul_comm (c.toNat - 128), Nat.mul_assoc, Nat.add_assoc]
              rw [this]
            · congr 1; omega
      · have c2 : ¬ (((a + k : Nat) : Int) < (b.length : Int)) := by omega
        have e3 : 9 - k = (8 - k) + 1 := by omega
        rw [List.drop_eq_nil_of_le (by omega), e3]
        simp only [c1, e1, ln_map, c2, if_true, if_false, dec]
    · have : k = 9 := by omega
      subst this
      have c1 : ¬ (((9 : Nat) : Int) < 9) := by omega
      simp only [c1, if_false, Nat.sub_self, dec]

theorem i_GetNum_eq (b : List UInt8) (a : Int) (hl : b.length < 1000000000) : i_GetNum b a = some (gnT b a) := by
  unfold i_GetNum gnT gn
  have e : w64 (((b.length : Nat) : Int) - 1) = (b.length : Int) - 1 := by rw [w64_id] <;> omega
  simp only [ln_map, e, i_in_eq, Option.bind_some, decide_eq_true_eq]
  by_cases h : 0 ≤ a ∧ a < b.length
  · have h' : 0 ≤ a ∧ a ≤ (b.length : Int) - 1 := by omega
    rw [if_neg (fun n => n h'), if_pos h]
    obtain ⟨m, rfl⟩ := Int.eq_ofNat_of_zero_le h.1
    have h := i_GetNum_L1_eq b m hl FUEL 0 0 (by omega) (by omega) (FUEL_gt (by omega)) (by omega)
    simp only [Nat.pow_zero, Nat.sub_zero, Nat.add_zero, decide_true, Nat.zero_add, Nat.one_mul] at h
    rw [show ((0 : Nat) : Int) = 0 from rfl] at h
    rw [h]
    simp only [Int.toNat_natCast]
    cases dec true 9 (b.drop m) with
    | none => rfl
    | some p => simp
  · have h' : ¬ (0 ≤ a ∧ a ≤ (b.length : Int) - 1) := by omega
    rw [if_pos h', if_neg h]

end Go.Proofs.YtbknlijpkabcnaaGreat.K
