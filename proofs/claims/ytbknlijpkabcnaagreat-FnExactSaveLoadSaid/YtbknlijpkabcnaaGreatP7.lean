/- Numbers into bytes; checks; sealed bytes. No condition. -/
import Derived.Test.YtbknlijpkabcnaaGreatP6
namespace Go.Proofs.YtbknlijpkabcnaaGreat.K
set_option linter.all false
open Go
open Classical

def enc (n : Nat) : List UInt8 := if n < 128 then [UInt8.ofNat n] else UInt8.ofNat (n % 128 + 128) :: enc (n / 128)
termination_by n
decreasing_by omega

theorem enc_lt {n : Nat} (h : n < 128) : enc n = [UInt8.ofNat n] := by rw [enc, if_pos h]
theorem enc_ge {n : Nat} (h : ¬ n < 128) : enc n = UInt8.ofNat (n % 128 + 128) :: enc (n / 128) := by rw [enc, if_neg h]
theorem ofNat_toNat {n : Nat} (h : n < 256) : (UInt8.ofNat n).toNat = n := by rw [UInt8.toNat_ofNat']; omega

theorem enc_len : ∀ (m n : Nat), n < 128 ^ m → (enc n).length ≤ m ∨ (m = 0 ∧ (enc n).length = 1)
  | 0, n, h => by
    have : n = 0 := by simpa using h
    subst this; right; rw [enc_lt (by omega)]; simp
  | m + 1, n, h => by
    left
    by_cases h1 : n < 128
    · rw [enc_lt h1]; simp
    · rw [enc_ge h1, List.length_cons]
      rw [Nat.pow_succ] at h
      rcases enc_len m (n / 128) (by omega) with h2 | h2
      · omega
      · have : m = 0 := h2.1
        subst this; simp at h; omega

theorem dec_enc : ∀ (m n : Nat) (f : Bool) (r : List UInt8), n < 128 ^ m → (f = false → 0 < n) → 0 < m → dec f m (enc n ++ r) = some (n, (enc n).length)
  | 0, _, _, _, _, _, h => by omega
  | m + 1, n, f, r, h, hf, _ => by
    by_cases h1 : n < 128
    · rw [enc_lt h1]
      simp only [List.singleton_append, dec, ofNat_toNat (show n < 256 by omega), h1, if_true, List.length_singleton]
      rw [if_neg]
      rintro ⟨h2, h3⟩
      have := hf h3; omega
    · rw [enc_ge h1]
      rw [Nat.pow_succ] at h
      have hm : 0 < m := by
        rcases Nat.eq_zero_or_pos m with h2 | h2
        · subst h2; simp at h; omega
        · exact h2
      have e : (UInt8.ofNat (n % 128 + 128)).toNat = n % 128 + 128 := ofNat_toNat (by omega)
      simp only [List.cons_append, dec, e, show ¬ (n % 128 + 128 < 128) by omega, if_false]
      rw [dec_enc m (n / 128) false r (by omega) (fun _ => by omega) hm]
      simp only [Option.map_some, List.length_cons, Option.some.injEq, Prod.mk.injEq, and_true]
      omega

theorem enc_dec : ∀ (m : Nat) (f : Bool) (s : List UInt8) (v l : Nat), dec f m s = some (v, l) → s.take l = enc v ∧ (f = false → 0 < v)
  | 0, _, _, _, _, h => by cases h
  | _ + 1, _, [], _, _, h => by cases h
  | m + 1, f, c :: s, v, l, h => by
    simp only [dec] at h
    by_cases h1 : c.toNat < 128
    · rw [if_pos h1] at h
      split at h
      · cases h
      · rename_i hz
        cases h
        refine ⟨?_, fun hf => ?_⟩
        · rw [enc_lt h1]; simp
        · rcases Nat.eq_zero_or_pos c.toNat with h2 | h2
          · exact absurd ⟨h2, hf⟩ hz
          · exact h2
    · rw [if_neg h1] at h
      cases hd : dec false m s with
      | none => rw [hd] at h; cases h
      | some p =>
        rw [hd] at h
        simp only [Option.map_some, Option.some.injEq, Prod.mk.injEq] at h
        obtain ⟨rfl, rfl⟩ := h
        obtain ⟨h2, h3⟩ := enc_dec m false s p.1 p.2 hd
        have hp := h3 rfl
        have hc := c.toNat_lt
        refine ⟨?_, fun _ => by omega⟩
        rw [enc_ge (by omega), List.take_succ_cons, h2]
        congr 1
        · rw [show (c.toNat - 128 + 128 * p.1) % 128 + 128 = c.toNat by omega]; simp
        · rw [show (c.toNat - 128 + 128 * p.1) / 128 = p.1 by omega]

theorem band_mod (x : Nat) (h : x < 9223372036854775808) : band .i64 (x : Int) 127 = ((x % 128 : Nat) : Int) := by
  unfold band bitOp
  rw [show (IntKind.i64.bits) = 64 from rfl]
  have e1 : (BitVec.ofInt 64 (x : Int)) = BitVec.ofNat 64 x := by rw [BitVec.ofInt_natCast]
  have e2 : (BitVec.ofInt 64 (127 : Int)) = BitVec.ofNat 64 127 := rfl
  rw [e1, e2, BitVec.toNat_and, BitVec.toNat_ofNat, BitVec.toNat_ofNat, Nat.mod_eq_of_lt (by omega), Nat.mod_eq_of_lt (by decide)]
  rw [show (127 : Nat) = 2 ^ 7 - 1 from rfl, Nat.and_two_pow_sub_one_eq_mod]
  exact w64_id (by omega) (by omega)
theorem byteOf_nat (n : Nat) : byteOf (n : Int) = UInt8.ofNat (n % 256) := by
  unfold byteOf
  have e : IntKind.u8.wrap (n : Int) = ((n % 256 : Nat) : Int) := by simp [IntKind.wrap, IntKind.bits, IntKind.signed]
  rw [e, Int.toNat_natCast]
theorem byte_low (x : Nat) (h : x < 9223372036854775808) : byteOf (bor .i64 (band .i64 (x : Int) 127) 128) = UInt8.ofNat (x % 128 + 128) := by
  have := bor_add (x % 128) 1 1 (by simp; omega) (by omega) (by omega)
  rw [band_mod x h, show (128 : Int) = ((1 * 128 ^ 1 : Nat) : Int) from rfl, this, byteOf_nat, Nat.mod_eq_of_lt (by omega)]
theorem fdiv_nat (x d : Nat) : Int.fdiv (x : Int) (d : Int) = ((x / d : Nat) : Int) := by
  rw [Int.fdiv_eq_ediv_of_nonneg _ (by omega)]; rfl

theorem i_PutNum_L1_eq (k : Int × List UInt8 → Option (List UInt8)) (hk : ∀ (x : Nat) (acc : List UInt8), x < 128 → acc.length ≤ 1000 → k ((x : Int), acc) = some (acc ++ [UInt8.ofNat x])) :
    ∀ (m n x : Nat) (acc : List UInt8), x < 128 ^ m → m < n → x < 9223372036854775808 → acc.length + m ≤ 1000 → i_PutNum_L1 k n ((x : Int), acc) = some (acc ++ enc x) := by
  intro m
  induction m with
  | zero =>
    intro n x acc h hn _ hacc
    have : x = 0 := by simpa using h
    subst this
    obtain ⟨n, rfl⟩ : ∃ k, n = k + 1 := ⟨n - 1, by omega⟩
    rw [i_PutNum_L1.eq_2, if_neg (by simp), hk 0 acc (by omega) (by omega), enc_lt (by omega)]
  | succ m ih =>
    intro n x acc h hn hx hacc
    obtain ⟨n, rfl⟩ : ∃ k, n = k + 1 := ⟨n - 1, by omega⟩
    rw [i_PutNum_L1.eq_2]
    by_cases h1 : x < 128
    · rw [if_neg (by omega), hk x acc h1 (by omega), enc_lt h1]
    · rw [Nat.pow_succ] at h
      rw [if_pos (by omega), if_pos (by rw [List.length_map, List.length_map, List.length_singleton]; omega), byte_low x hx, show ((2 : Int) ^ (Int.toNat 7)) = ((128 : Nat) : Int) from rfl, fdiv_nat]
      rw [ih n (x / 128) _ (by omega) (by omega) (by omega) (by rw [List.length_append, List.length_singleton]; omega), enc_ge h1]
      simp

theorem i_PutNum_eq (n : Nat) (h : n < 9223372036854775808) : i_PutNum (n : Int) = some (enc n) := by
  unfold i_PutNum
  rw [if_neg (by omega), i_PutNum_L1_eq _ (fun x acc h1 h2 => ?_) 9 FUEL n [] (by simpa using h) (FUEL_gt (by omega)) h (by simp)]
  · simp
  · simp only [List.length_map, List.length_singleton]
    rw [if_pos (by omega), byteOf_nat, Nat.mod_eq_of_lt (by omega)]

/-- What a check goes through. -/
def ckS : List UInt8 → Nat × Nat → Nat × Nat
  | [], s => s
  | c :: l, s => ckS l ((s.1 + c.toNat + 1) % 65535, (s.2 + (s.1 + c.toNat + 1) % 65535) % 65535)
def ck (b : List UInt8) : Nat := 65536 * (ckS b (0, 0)).2 + (ckS b (0, 0)).1
theorem ckS_lt : ∀ (b : List UInt8) (s : Nat × Nat), s.1 < 65535 → s.2 < 65535 → (ckS b s).1 < 65535 ∧ (ckS b s).2 < 65535
  | [], s, h1, h2 => ⟨h1, h2⟩
  | c :: l, s, _, _ => ckS_lt l _ (Nat.mod_lt _ (by omega)) (Nat.mod_lt _ (by omega))
theorem ck_lt (b : List UInt8) : ck b < 4294967296 := by
  have := ckS_lt b (0, 0) (by simp) (by simp)
  unfold ck; omega

theorem ck_step (s : Nat × Nat) (c : UInt8) (h1 : s.1 < 65535) (h2 : s.2 < 65535) :
    Int.tmod (w64 ((w64 ((s.1 : Int) + (w64 (bn c)))) + 1)) 65535 = (((s.1 + c.toNat + 1) % 65535 : Nat) : Int) ∧
    Int.tmod (w64 ((s.2 : Int) + (((s.1 + c.toNat + 1) % 65535 : Nat) : Int))) 65535 = (((s.2 + (s.1 + c.toNat + 1) % 65535) % 65535 : Nat) : Int) := by
  have hc := c.toNat_lt
  constructor
  · rw [bnw, w64_id (n := (s.1 : Int) + c.toNat) (by omega) (by omega), w64_id (by omega) (by omega)]
    rw [show (s.1 : Int) + c.toNat + 1 = ((s.1 + c.toNat + 1 : Nat) : Int) by push_cast; rfl]; rfl
  · have := Nat.mod_lt (s.1 + c.toNat + 1) (show 65535 > 0 by omega)
    rw [w64_id (by omega) (by omega), ← Int.natCast_add]; rfl

theorem i_Check_eq (b : List UInt8) (hl : b.length < 1000000000) : i_Check b = some (ck b : Int) := by
  unfold i_Check
  have key : ∀ n (i : Nat) (s : Nat × Nat), i ≤ b.length → b.length - i < n → s.1 < 65535 → s.2 < 65535 →
      i_Check_L1 b (fun (w12, w13) => some (w64 ((w64 ((65536 : Int) * w13)) + w12))) n ((s.1 : Int), (s.2 : Int), (i : Int)) = some (((65536 * (ckS (b.drop i) s).2 + (ckS (b.drop i) s).1 : Nat)) : Int) := by
    intro n
    induction n with
    | zero => intro i s _ h; omega
    | succ n ih =>
      intro i s hi hn h1 h2
      rw [i_Check_L1.eq_2]
      rcases Nat.lt_or_ge i b.length with h | h
      · obtain ⟨e1, e2, c1, c2⟩ := ixf h hl
        rw [ln_map, if_pos c1, if_pos c2, e2, List.getElem?_eq_getElem h, Option.bind_some, dropc h]
        obtain ⟨k1, k2⟩ := ck_step s b[i] h1 h2
        rw [k1, k2, e1]
        exact ih (i + 1) ((s.1 + b[i].toNat + 1) % 65535, (s.2 + (s.1 + b[i].toNat + 1) % 65535) % 65535) h (by omega) (Nat.mod_lt _ (by omega)) (Nat.mod_lt _ (by omega))
      · have : i = b.length := by omega
        subst this
        rw [ln_map, if_neg (by omega), List.drop_length]
        simp only [ckS]
        rw [w64_id (n := 65536 * (s.2 : Int)) (by omega) (by omega), w64_id (by omega) (by omega), Int.natCast_add, Int.natCast_mul]
        rfl
  have := key FUEL 0 (0, 0) (Nat.zero_le _) (FUEL_gt (by omega)) (by simp) (by simp)
  rw [List.drop_zero] at this
  exact this

theorem s_Check_L1_same (b : List UInt8) (k : Int × Int → Option Int) : ∀ n v, s_Check_L1 b k n v = i_Check_L1 b k n v := by
  intro n
  induction n with
  | zero => intro v; rfl
  | succ n ih => rintro ⟨x, y, i⟩; rw [s_Check_L1.eq_2, i_Check_L1.eq_2]; simp only [ih]
theorem s_Check_eq (b : List UInt8) (hl : b.length < 1000000000) : s_Check b = some (ck b : Int) := by
  rw [← i_Check_eq b hl]; unfold s_Check i_Check; rw [s_Check_L1_same]

/-- A number of four bytes. -/
def le4 (n : Nat) : List UInt8 := [UInt8.ofNat (n % 256), UInt8.ofNat (n / 256 % 256), UInt8.ofNat (n / 65536 % 256), UInt8.ofNat (n / 16777216 % 256)]
theorem i_checkBytes_eq (b : List UInt8) (hl : b.length < 1000000000) : i_checkBytes b = some (le4 (ck b)) := by
  unfold i_checkBytes
  rw [i_Check_eq b hl, Option.bind_some, show ((2 : Int) ^ (Int.toNat 8)) = ((256 : Nat) : Int) from rfl, show ((2 : Int) ^ (Int.toNat 16)) = ((65536 : Nat) : Int) from rfl, show ((2 : Int) ^ (Int.toNat 24)) = ((16777216 : Nat) : Int) from rfl]
  simp only [fdiv_nat, byteOf_nat, le4]

theorem g_Equal_byte_eq (a b : List UInt8) (ha : a.length < 1000000000) : g_Equal_byte a b = some (decide (a = b)) := by
  unfold g_Equal_byte
  simp only [ln_map]
  by_cases hl : a.length = b.length
  · rw [if_neg (by omega)]
    have hh := all_loop (len := a.length) (g_Equal_byte_L1 a b (fun _ => some true)) (fun j => a[j]? = b[j]?) (some true) (some false) (fun n i hi => by
      obtain ⟨e1, e2, c1, c2⟩ := ixf hi ha
      rw [g_Equal_byte_L1.eq_2]
      have hb : b[i]? = some (b[i]'(by omega)) := List.getElem?_eq_getElem _
      rw [ln_map, if_pos c1, if_pos c2, e2, List.getElem?_eq_getElem hi, Option.bind_some, hb, Option.bind_some, e1]
      by_cases h : a[i] = b[i]'(by omega)
      · rw [if_neg (by rw [h]; exact fun n => n rfl), if_pos (by rw [h])]; rfl
      · rw [if_pos, if_neg (fun k => h (by simpa using k))]
        intro k
        apply h
        apply UInt8.toNat_inj.1
        exact Int.natCast_inj.1 k) (fun n => by rw [g_Equal_byte_L1.eq_2, ln_map, if_neg (by omega)]) FUEL 0 (Nat.zero_le _) (FUEL_gt (by omega))
    rw [show ((0 : Nat) : Int) = 0 from rfl] at hh
    rw [hh]
    have : (∀ j, 0 ≤ j → j < a.length → a[j]? = b[j]?) ↔ a = b := by
      constructor
      · intro h
        apply List.ext_getElem?
        intro j
        rcases Nat.lt_or_ge j a.length with h1 | h1
        · exact h j (Nat.zero_le _) h1
        · rw [List.getElem?_eq_none h1, List.getElem?_eq_none (by omega)]
      · rintro rfl j _ _; rfl
    by_cases h : a = b
    · rw [if_pos (this.2 h), decide_eq_true h]
    · rw [if_neg (fun k => h (this.1 k)), decide_eq_false h]
  · rw [if_pos (by omega), decide_eq_false (fun h => hl (by rw [h]))]

end Go.Proofs.YtbknlijpkabcnaaGreat.K
