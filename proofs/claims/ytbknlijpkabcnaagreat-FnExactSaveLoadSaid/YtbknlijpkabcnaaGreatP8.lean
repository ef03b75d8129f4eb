/- Sealed bytes: both sides. No condition. -/
import Derived.Test.YtbknlijpkabcnaaGreatP7
namespace Go.Proofs.YtbknlijpkabcnaaGreat.K
set_option linter.all false
open Go
open Classical

theorem gn_bd {b : List UInt8} {a v e : Int} (h : gn b a = some (v, e)) : 0 ≤ v ∧ v < 9223372036854775808 ∧ 0 ≤ a ∧ a < e ∧ e ≤ b.length ∧ e ≤ a + 9 ∧ (b.drop a.toNat).take (e - a).toNat = enc v.toNat := by
  unfold gn at h
  split at h
  · rename_i hc
    cases hd : dec true 9 (b.drop a.toNat) with
    | none => rw [hd] at h; cases h
    | some p =>
      rw [hd] at h
      simp only [Option.map_some, Option.some.injEq, Prod.mk.injEq] at h
      obtain ⟨rfl, rfl⟩ := h
      obtain ⟨h1, h2, h3, h4⟩ := dec_bd true 9 _ p.1 p.2 hd
      have h5 := pow128 0 p.2 (by omega)
      rw [Nat.zero_add] at h5
      obtain ⟨h6, _⟩ := enc_dec 9 true _ p.1 p.2 hd
      rw [List.length_drop] at h4
      refine ⟨by omega, by omega, hc.1, by omega, by omega, by omega, ?_⟩
      rw [show (a + (p.2 : Int) - a).toNat = p.2 by omega, Int.toNat_natCast]; exact h6
  · cases h

/-- Unseal. -/
def uns (b : List UInt8) (a : Int) : List UInt8 × Int × Int := match gn b a with
  | none => ([], 0, 1)
  | some (n, e) => if 9000 < n then ([], 0, 1) else if (b.length : Int) - e < n + 4 then ([], 0, 2) else
      if le4 (ck ((b.drop e.toNat).take n.toNat)) = (b.drop (e.toNat + n.toNat)).take 4 then ((b.drop e.toNat).take n.toNat, e + n + 4, 0) else ([], 0, 3)

theorem sub_eq2 (b : List UInt8) (e n : Nat) : sub b e (e + n) false = (b.drop e).take n := by
  show (b.take (e + n)).drop e = _
  rw [List.drop_take]; congr 1; omega

theorem uns_bounds {b : List UInt8} (hl : b.length < 1000000000) {n e : Int} (h1 : 0 ≤ n) (h2 : n ≤ 9000) (h3 : 0 ≤ e) (h4 : e ≤ b.length) (h5 : ¬ (b.length : Int) - e < n + 4) :
    w64 (e + n) = e + n ∧ w64 (e + n + 4) = e + n + 4 ∧ w64 (n + 4) = n + 4 ∧ w64 ((b.length : Int) - e) = (b.length : Int) - e ∧ Int.toNat (e + n) = e.toNat + n.toNat ∧ Int.toNat (e + n + 4) = e.toNat + n.toNat + 4 :=
  ⟨by rw [w64_id] <;> omega, by rw [w64_id] <;> omega, by rw [w64_id] <;> omega, by rw [w64_id] <;> omega, by omega, by omega⟩

theorem i_Unseal_eq (b : List UInt8) (a : Int) (hl : b.length < 1000000000) : i_Unseal b a = some (uns b a) := by
  unfold i_Unseal uns
  rw [i_GetNum_eq b a hl, Option.bind_some]
  unfold gnT
  cases hg : gn b a with
  | none => simp
  | some p =>
    obtain ⟨n, e⟩ := p
    obtain ⟨h1, h2, h3, h4, h5, h6, _⟩ := gn_bd hg
    simp only [not_true_eq_false, if_false, ln_map]
    by_cases h9 : 9000 < n
    · rw [if_pos h9, if_pos h9]
    · rw [if_neg h9, if_neg h9]
      have w3 : w64 (n + 4) = n + 4 := by rw [w64_id] <;> omega
      have w4 : w64 ((b.length : Int) - e) = (b.length : Int) - e := by rw [w64_id] <;> omega
      rw [w3, w4]
      by_cases hs : (b.length : Int) - e < n + 4
      · rw [if_pos hs, if_pos hs]
      · rw [if_neg hs, if_neg hs]
        obtain ⟨w1, w2, _, _, t1, t2⟩ := uns_bounds hl h1 (by omega) (by omega) h5 hs
        rw [w1, w2, t1, t2, if_pos (by omega), sub_eq2, i_checkBytes_eq _ (by rw [List.length_take, List.length_drop]; omega), Option.bind_some, if_pos (by omega), sub_eq2,
          g_Equal_byte_eq _ _ (by simp [le4]), Option.bind_some]
        by_cases hc : le4 (ck ((b.drop e.toNat).take n.toNat)) = (b.drop (e.toNat + n.toNat)).take 4
        · rw [if_pos hc, decide_eq_true hc, if_neg (by simp)]
          unfold g_Clone_byte
          rw [if_pos (by simp only [List.length_map, List.length_nil, List.length_take, List.length_drop]; omega), Option.bind_some]
        · rw [if_neg hc, decide_eq_false hc, if_pos (by simp)]

theorem le4_val {n : Nat} (h : n < 4294967296) (a b c d : UInt8) : le4 n = [a, b, c, d] ↔ n = a.toNat + b.toNat * 256 + c.toNat * 65536 + d.toNat * 16777216 := by
  have ha := a.toNat_lt; have hb := b.toNat_lt; have hc := c.toNat_lt; have hd := d.toNat_lt
  unfold le4
  simp only [List.cons.injEq, and_true, ← UInt8.toNat_inj]
  rw [ofNat_toNat (by omega), ofNat_toNat (by omega), ofNat_toNat (by omega), ofNat_toNat (by omega)]
  omega

theorem s_Unseal_eq (b : List UInt8) (a : Int) (hl : b.length < 1000000000) : s_Unseal b a = some (uns b a) := by
  unfold s_Unseal uns
  rw [s_GetNum_eq b a hl, Option.bind_some]
  unfold gnT
  cases hg : gn b a with
  | none => simp
  | some p =>
    obtain ⟨n, e⟩ := p
    obtain ⟨h1, h2, h3, h4, h5, h6, _⟩ := gn_bd hg
    simp only [not_true_eq_false, if_false, ln_map]
    by_cases h9 : 9000 < n
    · rw [if_pos h9, if_pos h9]
    · rw [if_neg h9, if_neg h9]
      have w3 : w64 (n + 4) = n + 4 := by rw [w64_id] <;> omega
      have w4 : w64 ((b.length : Int) - e) = (b.length : Int) - e := by rw [w64_id] <;> omega
      rw [w3, w4]
      by_cases hs : (b.length : Int) - e < n + 4
      · rw [if_pos hs, if_pos hs]
      · rw [if_neg hs, if_neg hs]
        obtain ⟨w1, w2, _, _, t1, t2⟩ := uns_bounds hl h1 (by omega) (by omega) h5 hs
        have hlen : ((b.drop e.toNat).take n.toNat).length < 1000000000 := by rw [List.length_take, List.length_drop]; omega
        have hlen4 : ((b.drop (e.toNat + n.toNat)).take 4).length = 4 := by rw [List.length_take, List.length_drop]; omega
        simp only [w1, w2, t1, t2, sub_eq2]
        rw [if_pos (by omega), if_pos (by simp only [List.length_map, List.length_nil]; omega), if_pos (by omega), List.nil_append, s_Check_eq _ hlen, Option.bind_some]
        obtain ⟨c0, c1, c2, c3, h4e⟩ : ∃ c0 c1 c2 c3, (b.drop (e.toNat + n.toNat)).take 4 = [c0, c1, c2, c3] := by
          match hm : (b.drop (e.toNat + n.toNat)).take 4, hlen4 with
          | [c0, c1, c2, c3], _ => exact ⟨c0, c1, c2, c3, rfl⟩
        rw [h4e]
        have k0 := c0.toNat_lt; have k1 := c1.toNat_lt; have k2 := c2.toNat_lt; have k3 := c3.toNat_lt
        have v1 : w64 ((c1.toNat : Int) * 2 ^ (min (Int.toNat (8 : Int)) (IntKind.bits .i64))) = (c1.toNat : Int) * 256 := by
          rw [show ((2 : Int) ^ (min (Int.toNat (8 : Int)) (IntKind.bits .i64))) = 256 from rfl, w64_id] <;> omega
        have v2 : w64 ((c2.toNat : Int) * 2 ^ (min (Int.toNat (16 : Int)) (IntKind.bits .i64))) = (c2.toNat : Int) * 65536 := by
          rw [show ((2 : Int) ^ (min (Int.toNat (16 : Int)) (IntKind.bits .i64))) = 65536 from rfl, w64_id] <;> omega
        have v3 : w64 ((c3.toNat : Int) * 2 ^ (min (Int.toNat (24 : Int)) (IntKind.bits .i64))) = (c3.toNat : Int) * 16777216 := by
          rw [show ((2 : Int) ^ (min (Int.toNat (24 : Int)) (IntKind.bits .i64))) = 16777216 from rfl, w64_id] <;> omega
        have a1 : w64 ((c0.toNat : Int) + (c1.toNat : Int) * 256) = (c0.toNat : Int) + (c1.toNat : Int) * 256 := by rw [w64_id] <;> omega
        have a2 : w64 ((c0.toNat : Int) + (c1.toNat : Int) * 256 + (c2.toNat : Int) * 65536) = (c0.toNat : Int) + (c1.toNat : Int) * 256 + (c2.toNat : Int) * 65536 := by rw [w64_id] <;> omega
        have a3 : w64 ((c0.toNat : Int) + (c1.toNat : Int) * 256 + (c2.toNat : Int) * 65536 + (c3.toNat : Int) * 16777216) = (c0.toNat : Int) + (c1.toNat : Int) * 256 + (c2.toNat : Int) * 65536 + (c3.toNat : Int) * 16777216 := by rw [w64_id] <;> omega
        simp only [show (0 : Int) ≤ 0 by omega, show (0 : Int) ≤ 1 by omega, show (0 : Int) ≤ 2 by omega, show (0 : Int) ≤ 3 by omega, if_true, show Int.toNat 0 = 0 from rfl, show Int.toNat 1 = 1 from rfl, show Int.toNat 2 = 2 from rfl, show Int.toNat 3 = 3 from rfl,
          List.getElem?_cons_zero, List.getElem?_cons_succ, Option.bind_some, bnw, v1, v2, v3, a1, a2, a3]
        have hv := le4_val (ck_lt ((b.drop e.toNat).take n.toNat)) c0 c1 c2 c3
        have hcast : ((ck ((b.drop e.toNat).take n.toNat) : Int) ≠ (c0.toNat : Int) + (c1.toNat : Int) * 256 + (c2.toNat : Int) * 65536 + (c3.toNat : Int) * 16777216) ↔ ¬ (le4 (ck ((b.drop e.toNat).take n.toNat)) = [c0, c1, c2, c3]) := by
          rw [hv]
          generalize ck ((b.drop e.toNat).take n.toNat) = K
          generalize c0.toNat = x0; generalize c1.toNat = x1; generalize c2.toNat = x2; generalize c3.toNat = x3
          omega
        by_cases hc : le4 (ck ((b.drop e.toNat).take n.toNat)) = [c0, c1, c2, c3]
        · rw [if_pos hc, if_neg (fun hn => hcast.1 hn hc)]
        · rw [if_neg hc, if_pos (hcast.2 hc)]

/-- Seal. -/
def sealB (b : List UInt8) : List UInt8 := enc b.length ++ b ++ le4 (ck b)

theorem g_Grow_byte_eq (n : Int) (h : 0 ≤ n) (h2 : n < 1000000000) : g_Grow_byte n = some [] := by
  unfold g_Grow_byte
  have e1 : w64 ((0 : Int) - ln ([] : List AV)) = 0 := by rw [show ln ([] : List AV) = 0 from rfl, w64_id] <;> omega
  have e2 : w64 (n - 0) = n := by rw [w64_id] <;> omega
  rw [if_neg (by omega), e1, e2]
  by_cases hn : 0 < n
  · rw [if_pos hn, if_pos (by omega), if_pos (by omega), if_pos ⟨Int.le_refl _, by simp [ln]; omega⟩]
    simp [ln]
  · rw [if_neg hn]

theorem g_Concat_byte_eq (a b c : List UInt8) (ha : a.length < 100000) (hb : b.length < 100000) (hc : c.length < 100000) : g_Concat_byte [a, b, c] = some (a ++ b ++ c) := by
  have f3 : FUEL = (FUEL - 4) + 1 + 1 + 1 + 1 := by have := FUEL_gt (n := 100) (by omega); omega
  unfold g_Concat_byte
  have l3 : ln (List.map (sv 1 u8) [a, b, c]) = 3 := rfl
  have w1 : w64 ((0 : Int) + 1) = 1 := by rw [w64_id] <;> omega
  have w2 : w64 ((1 : Int) + 1) = 2 := by rw [w64_id] <;> omega
  have w3 : w64 ((2 : Int) + 1) = 3 := by rw [w64_id] <;> omega
  have s1 : w64 ((0 : Int) + (a.length : Int)) = (a.length : Int) := by rw [w64_id] <;> omega
  have s2 : w64 ((a.length : Int) + (b.length : Int)) = (a.length : Int) + (b.length : Int) := by rw [w64_id] <;> omega
  have s3 : w64 ((a.length : Int) + (b.length : Int) + (c.length : Int)) = (a.length : Int) + (b.length : Int) + (c.length : Int) := by rw [w64_id] <;> omega
  have k : ∀ n, g_Concat_byte_L2 [a, b, c] (fun w28 => some w28) (n + 1 + 1 + 1 + 1) (([] : List UInt8), (0 : Int)) = some (a ++ b ++ c) := by
    intro n
    simp only [g_Concat_byte_L2.eq_2, l3, w1, w2, w3, show (0 : Int) < 3 by omega, show (1 : Int) < 3 by omega, show (2 : Int) < 3 by omega, show ¬ ((3 : Int) < 3) by omega, show (0 : Int) ≤ 0 by omega, show (0 : Int) ≤ 1 by omega, show (0 : Int) ≤ 2 by omega, if_true, if_false,
      show Int.toNat 0 = 0 from rfl, show Int.toNat 1 = 1 from rfl, show Int.toNat 2 = 2 from rfl, List.getElem?_cons_zero, List.getElem?_cons_succ, Option.bind_some, List.length_map, List.nil_append, List.length_append, List.length_nil]
    rw [if_pos (by omega), if_pos (by omega), if_pos (by omega)]
  rw [f3]
  simp only [g_Concat_byte_L1.eq_2, l3, w1, w2, w3, show (0 : Int) < 3 by omega, show (1 : Int) < 3 by omega, show (2 : Int) < 3 by omega, show ¬ ((3 : Int) < 3) by omega, show (0 : Int) ≤ 0 by omega, show (0 : Int) ≤ 1 by omega, show (0 : Int) ≤ 2 by omega, if_true, if_false,
    show Int.toNat 0 = 0 from rfl, show Int.toNat 1 = 1 from rfl, show Int.toNat 2 = 2 from rfl, List.getElem?_cons_zero, List.getElem?_cons_succ, Option.bind_some, ln_map, s1, s2, s3]
  rw [if_neg (by omega), if_neg (by omega), if_neg (by omega), g_Grow_byte_eq _ (by omega) (by omega), Option.bind_some, k]

theorem i_Seal_eq (b : List UInt8) (hl : b.length < 1000000000) : i_Seal b = some (if 9000 < b.length then ([], false) else (sealB b, true)) := by
  unfold i_Seal
  rw [ln_map]
  by_cases h : 9000 < b.length
  · rw [if_pos (by omega), if_pos h]
  · rw [if_neg (by omega), if_neg h, i_PutNum_eq b.length (by omega), Option.bind_some, i_checkBytes_eq b hl, Option.bind_some]
    have he : (enc b.length).length ≤ 9 := by
      have := enc_len 9 b.length (by have := (show 128 ^ 9 = 9223372036854775808 by decide); omega)
      omega
    rw [g_Concat_byte_eq _ _ _ (by omega) (by omega) (by simp [le4]), Option.bind_some]; rfl

end Go.Proofs.YtbknlijpkabcnaaGreat.K
