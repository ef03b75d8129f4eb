/- Books out of bytes: the program. No condition. -/
import Derived.Test.YtbknlijpkabcnaaGreatP11
namespace Go.Proofs.YtbknlijpkabcnaaGreat.K
set_option linter.all false
open Go
open Classical

section
variable {b : List UInt8} (hl : b.length < 1000000000)
include hl

/-- One number of the reader. -/
theorem one_eq (a : Int) (bad : Bool) : ∃ v e bad', i_numReader_one b a bad = some (v, e, bad') ∧ (bad = true → bad' = true) ∧
    (bad = false → match gn b a with | some p => v = p.1 ∧ e = p.2 ∧ bad' = false | none => bad' = true ∧ v = 0) ∧ (bad' = true → v = 0) := by
  unfold i_numReader_one
  rw [i_GetNum_eq b a hl, Option.bind_some]
  unfold gnT
  cases bad with
  | true => exact ⟨0, a, true, by simp, fun _ => rfl, fun h => (by cases h), fun _ => rfl⟩
  | false =>
    cases hg : gn b a with
    | none => exact ⟨0, a, true, by simp, fun _ => rfl, fun _ => ⟨rfl, rfl⟩, fun _ => rfl⟩
    | some p => exact ⟨p.1, p.2, false, by simp, fun h => (by cases h), fun _ => ⟨rfl, rfl, rfl⟩, fun h => (by cases h)⟩

theorem many_eq (a : Int) (bad : Bool) (most : Int) (hm : 0 ≤ most) : ∃ v e bad', i_numReader_many b a bad most = some (v, e, bad') ∧ (bad = true → bad' = true) ∧ 0 ≤ v ∧ v ≤ most ∧
    (bad = false → match gn b a with | some p => (if most < p.1 then bad' = true else v = p.1 ∧ e = p.2 ∧ bad' = false) | none => bad' = true) := by
  unfold i_numReader_many
  obtain ⟨v, e, bad', h1, h2, h3, h4⟩ := one_eq hl a bad
  rw [h1, Option.bind_some]
  simp only
  by_cases hv : most < v
  · rw [if_pos hv]
    refine ⟨0, e, true, rfl, fun _ => rfl, Int.le_refl _, hm, fun hb => ?_⟩
    have := h3 hb
    cases hg : gn b a with
    | none => rfl
    | some p => rw [hg] at this; simp only at this ⊢; rw [if_pos (by rw [← this.1]; exact hv)]; trivial
  · rw [if_neg hv]
    have hv0 : 0 ≤ v := by
      cases hb : bad' with
      | true => rw [h4 hb]; exact Int.le_refl _
      | false =>
        cases hbb : bad with
        | true => rw [h2 hbb] at hb; cases hb
        | false =>
          have := h3 hbb
          cases hg : gn b a with
          | none => rw [hg] at this; simp only at this; rw [this.2]; exact Int.le_refl _
          | some p => rw [hg] at this; simp only at this; rw [this.1]; exact (gn_bd (v := p.1) (e := p.2) hg).1
    refine ⟨v, e, bad', rfl, h2, hv0, by omega, fun hb => ?_⟩
    have := h3 hb
    cases hg : gn b a with
    | none => rw [hg] at this; exact this.1
    | some p => rw [hg] at this; simp only at this ⊢; rw [if_neg (by rw [← this.1]; exact hv)]; exact this

/-- A row of the reader. -/
def RowRel {α : Type} (b : List UInt8) (w : Nat) (conv : List Int → α) (a : Int) (bad : Bool) (x : α) (e : Int) (bad' : Bool) : Prop :=
  (bad = true → bad' = true) ∧ (bad = false → match rdN b w a with | some q => x = conv q.1 ∧ e = q.2 ∧ bad' = false | none => bad' = true)
/-- A row of numbers of the reader, with the numbers. -/
theorem rowN_zero (a : Int) (bad : Bool) : RowRel b 0 (fun l => l) a bad [] a bad := ⟨fun h => h, fun h => by simp [rdN, h]⟩
theorem rowN_succ {w : Nat} {a : Int} {bad : Bool} {v e : Int} {bad' : Bool} (h2 : bad = true → bad' = true) (h3 : bad = false → match gn b a with | some p => v = p.1 ∧ e = p.2 ∧ bad' = false | none => bad' = true ∧ v = 0)
    {l : List Int} {e' : Int} {bad'' : Bool} (h : RowRel b w (fun l => l) e bad' l e' bad'') : RowRel b (w + 1) (fun l => l) a bad (v :: l) e' bad'' := by
  refine ⟨fun hb => h.1 (h2 hb), fun hb => ?_⟩
  have := h3 hb
  simp only [rdN]
  cases hg : gn b a with
  | none => rw [hg] at this; simp only at this; exact h.1 this.1
  | some p =>
    rw [hg] at this; simp only at this
    obtain ⟨rfl, rfl, hb'⟩ := this
    have h4 := h.2 hb'
    simp only [Option.bind_some]
    cases hr : rdN b w p.2 with
    | none => rw [hr] at h4; simp only at h4; simp [h4]
    | some q => rw [hr] at h4; simp only at h4; simp [h4]
theorem RowRel.map {α : Type} {w : Nat} {a : Int} {bad : Bool} {l : List Int} {e : Int} {bad' : Bool} (h : RowRel b w (fun l => l) a bad l e bad') (conv : List Int → α) : RowRel b w conv a bad (conv l) e bad' :=
  ⟨h.1, fun hb => by
    have := h.2 hb
    cases hr : rdN b w a with
    | none => rw [hr] at this; exact this
    | some q => rw [hr] at this; simp only at this ⊢; exact ⟨by rw [this.1], this.2⟩⟩

/-- The rows of the reader. -/
theorem rows_loop {α R : Type} {w c : Nat} {conv : List Int → α} (hc : c ≤ 160) (F : Nat → Int → Bool → List α → Int → Option R) (k : Int → Bool → List α → Option R)
    (hs : ∀ n a bad (s : List α) (i : Nat), i < c → s.length = i → ∃ x e bad', RowRel b w conv a bad x e bad' ∧ F (n + 1) a bad s (i : Int) = F n e bad' (s ++ [x]) ((i : Int) + 1))
    (he : ∀ n a bad s, F (n + 1) a bad s (c : Int) = k a bad s) (a : Int) (bad : Bool) :
    ∃ lst e bad', F FUEL a bad [] 0 = k e bad' lst ∧ lst.length = c ∧ (bad = true → bad' = true) ∧ (bad = false → match rdR b w c a with | some q => lst = q.1.map conv ∧ e = q.2 ∧ bad' = false | none => bad' = true) := by
  have key : ∀ n (i : Nat) a bad (s : List α), i ≤ c → c - i < n → s.length = i → ∃ lst e bad', F n a bad s (i : Int) = k e bad' (s ++ lst) ∧ lst.length = c - i ∧ (bad = true → bad' = true) ∧
      (bad = false → match rdR b w (c - i) a with | some q => lst = q.1.map conv ∧ e = q.2 ∧ bad' = false | none => bad' = true) := by
    intro n
    induction n with
    | zero => intro i a bad s _ h; omega
    | succ n ih =>
      intro i a bad s hi hn hsl
      rcases Nat.lt_or_ge i c with h | h
      · obtain ⟨x, e, bad', ⟨h1, h2⟩, h3⟩ := hs n a bad s i h hsl
        obtain ⟨lst, e', bad'', k1, k2, k3, k4⟩ := ih (i + 1) e bad' (s ++ [x]) h (by omega) (by simp [hsl])
        rw [show ((i + 1 : Nat) : Int) = (i : Int) + 1 from rfl] at k1
        refine ⟨x :: lst, e', bad'', by rw [h3, k1]; simp, by simp [k2]; omega, fun hb => k3 (h1 hb), fun hb => ?_⟩
        have h4 := h2 hb
        rw [show c - i = (c - (i + 1)) + 1 by omega]
        simp only [rdR]
        cases hr : rdN b w a with
        | none => rw [hr] at h4; simp only at h4; exact k3 h4
        | some q =>
          rw [hr] at h4; simp only at h4
          obtain ⟨rfl, rfl, hb'⟩ := h4
          have k5 := k4 hb'
          simp only [Option.bind_some]
          cases hr2 : rdR b w (c - (i + 1)) q.2 with
          | none => rw [hr2] at k5; simp only at k5; simp [k5]
          | some z => rw [hr2] at k5; simp only at k5; simp [k5]
      · have : i = c := by omega
        subst this
        refine ⟨[], a, bad, by rw [he]; simp, by simp, fun h => h, fun hb => ?_⟩
        rw [Nat.sub_self]; simp [rdR, hb]
  obtain ⟨lst, e, bad', k1, k2, k3, k4⟩ := key FUEL 0 a bad [] (Nat.zero_le _) (FUEL_gt (by omega)) rfl
  rw [show ((0 : Nat) : Int) = 0 from rfl] at k1
  exact ⟨lst, e, bad', by simpa using k1, by simpa using k2, k3, by simpa using k4⟩

/-- A section of the reader, behind its number. -/
theorem sec_rel {α : Type} {w : Nat} {conv : List Int → α} {most a v e : Int} {bad bad' : Bool} (h1 : bad = true → bad' = true) (hv0 : 0 ≤ v)
    (h2 : bad = false → match gn b a with | some p => (if most < p.1 then bad' = true else v = p.1 ∧ e = p.2 ∧ bad' = false) | none => bad' = true)
    {lst : List α} {e' : Int} {bad'' : Bool} (h3 : bad' = true → bad'' = true) (h4 : bad' = false → match rdR b w v.toNat e with | some q => lst = q.1.map conv ∧ e' = q.2 ∧ bad'' = false | none => bad'' = true) :
    (bad = true → bad'' = true) ∧ (bad = false → match sec b w most a with | some q => lst = q.1.map conv ∧ e' = q.2 ∧ bad'' = false | none => bad'' = true) := by
  refine ⟨fun h => h3 (h1 h), fun h => ?_⟩
  have h5 := h2 h
  unfold sec
  cases hg : gn b a with
  | none => rw [hg] at h5; simp only at h5; exact h3 h5
  | some p =>
    rw [hg] at h5; simp only at h5
    simp only [Option.bind_some]
    by_cases hp : most < p.1
    · rw [if_pos hp] at h5 ⊢; exact h3 h5
    · rw [if_neg hp] at h5 ⊢
      obtain ⟨rfl, rfl, hb⟩ := h5
      exact h4 hb

theorem lot_eq (a : Int) (bad : Bool) : ∃ r e bad', i_numReader_lot b a bad = some r ∧ RowRel b 5 (fun l => l) a bad [r.1, r.2.1, r.2.2.1, r.2.2.2.1, r.2.2.2.2.1] e bad' ∧ r.2.2.2.2.2 = (e, bad') := by
  unfold i_numReader_lot
  obtain ⟨v1, e1, b1, h1, h2, h3, _⟩ := one_eq hl a bad
  obtain ⟨v2, e2, b2, k1, k2, k3, _⟩ := one_eq hl e1 b1
  obtain ⟨v3, e3, b3, m1, m2, m3, _⟩ := one_eq hl e2 b2
  obtain ⟨v4, e4, b4, n1, n2, n3, _⟩ := one_eq hl e3 b3
  obtain ⟨v5, e5, b5, p1, p2, p3, _⟩ := one_eq hl e4 b4
  refine ⟨(v1, v2, v3, v4, v5, e5, b5), e5, b5, by simp [h1, k1, m1, n1, p1], ?_, rfl⟩
  exact rowN_succ hl h2 h3 (rowN_succ hl k2 k3 (rowN_succ hl m2 m3 (rowN_succ hl n2 n3 (rowN_succ hl p2 p3 (rowN_zero hl e5 b5)))))
theorem trade_eq (a : Int) (bad : Bool) : ∃ r e bad', i_numReader_trade b a bad = some r ∧ RowRel b 8 (fun l => l) a bad [r.1, r.2.1, r.2.2.1, r.2.2.2.1, r.2.2.2.2.1, r.2.2.2.2.2.1, r.2.2.2.2.2.2.1, r.2.2.2.2.2.2.2.1] e bad' ∧ r.2.2.2.2.2.2.2.2 = (e, bad') := by
  unfold i_numReader_trade
  obtain ⟨v1, e1, b1, h1, h2, h3, _⟩ := one_eq hl a bad
  obtain ⟨v2, e2, b2, k1, k2, k3, _⟩ := one_eq hl e1 b1
  obtain ⟨v3, e3, b3, m1, m2, m3, _⟩ := one_eq hl e2 b2
  obtain ⟨v4, e4, b4, n1, n2, n3, _⟩ := one_eq hl e3 b3
  obtain ⟨v5, e5, b5, p1, p2, p3, _⟩ := one_eq hl e4 b4
  obtain ⟨v6, e6, b6, q1, q2, q3, _⟩ := one_eq hl e5 b5
  obtain ⟨v7, e7, b7, r1, r2, r3, _⟩ := one_eq hl e6 b6
  obtain ⟨v8, e8, b8, s1, s2, s3, _⟩ := one_eq hl e7 b7
  refine ⟨(v1, v2, v3, v4, v5, v6, v7, v8, e8, b8), e8, b8, by simp [h1, k1, m1, n1, p1, q1, r1, s1], ?_, rfl⟩
  exact rowN_succ hl h2 h3 (rowN_succ hl k2 k3 (rowN_succ hl m2 m3 (rowN_succ hl n2 n3 (rowN_succ hl p2 p3 (rowN_succ hl q2 q3 (rowN_succ hl r2 r3 (rowN_succ hl s2 s3 (rowN_zero hl e8 b8))))))))

end

theorem sec1 {b : List UInt8} (hl : b.length < 1000000000) (a : Int) (bad : Bool) (K : Int × Bool × List MAccount → Option (List MAccount × List MInstr × List MBal × List MLot × List MTrade × Int × Bool)) (X : Option (List MAccount × List MInstr × List MBal × List MLot × List MTrade × Int × Bool))
    (hX : ∀ lst e bad', lst.length ≤ 160 → ((bad = true → bad' = true) ∧ (bad = false → match sec b 2 20 a with | some q => lst = q.1.map cAcc ∧ e = q.2 ∧ bad' = false | none => bad' = true)) → K (e, bad', lst) = X) :
    (Option.bind (i_numReader_many b a bad (20 : Int)) fun y1 => i_BooksRead_L1 b y1 K FUEL (y1.2.1, y1.2.2, [], (0 : Int))) = X := by
  obtain ⟨c, a1, d1, h1, x1, y1, z1, t1⟩ := many_eq hl a bad 20 (by omega)
  rw [h1, Option.bind_some]
  obtain ⟨lst, e, bad', k1, k2, k3, k4⟩ := rows_loop (α := MAccount) (b := b) hl (w := 2) (c := c.toNat) (conv := cAcc) (by omega) (fun n a bad s i => i_BooksRead_L1 b (c, a1, d1) K n (a, bad, s, i)) (fun a bad s => K (a, bad, s)) (fun n a bad s i hi hs => by
      have ei : w64 ((i : Int) + 1) = (i : Int) + 1 := by rw [w64_id] <;> omega
      have c1 : (i : Int) < c := by omega
      rw [i_BooksRead_L1.eq_2, if_pos c1]
      obtain ⟨v1, e1, b1, p1, q1, r1, _⟩ := one_eq hl a bad
      rw [p1, Option.bind_some]
      obtain ⟨v2, e2, b2, p2, q2, r2, _⟩ := one_eq hl e1 b1
      rw [p2, Option.bind_some]
      simp only
      rw [if_pos (by simp only [List.length_map, List.length_singleton]; omega), ei]
      exact ⟨cAcc [v1, v2], e2, b2, RowRel.map hl (rowN_succ hl q1 r1 (rowN_succ hl q2 r2 (rowN_zero hl e2 b2))) cAcc, rfl⟩) (fun n a bad s => by rw [i_BooksRead_L1.eq_2, if_neg (by simp only; omega)]) a1 d1
  simp only
  rw [k1]
  exact hX lst e bad' (by omega) (sec_rel hl x1 y1 t1 k3 k4)

theorem sec2 {b : List UInt8} (hl : b.length < 1000000000) (a : Int) (bad : Bool) (K : Int × Bool × List MInstr → Option (List MAccount × List MInstr × List MBal × List MLot × List MTrade × Int × Bool)) (X : Option (List MAccount × List MInstr × List MBal × List MLot × List MTrade × Int × Bool))
    (hX : ∀ lst e bad', lst.length ≤ 160 → ((bad = true → bad' = true) ∧ (bad = false → match sec b 2 8 a with | some q => lst = q.1.map cIns ∧ e = q.2 ∧ bad' = false | none => bad' = true)) → K (e, bad', lst) = X) :
    (Option.bind (i_numReader_many b a bad (8 : Int)) fun y1 => i_BooksRead_L2 b y1 K FUEL (y1.2.1, y1.2.2, [], (0 : Int))) = X := by
  obtain ⟨c, a1, d1, h1, x1, y1, z1, t1⟩ := many_eq hl a bad 8 (by omega)
  rw [h1, Option.bind_some]
  obtain ⟨lst, e, bad', k1, k2, k3, k4⟩ := rows_loop (α := MInstr) (b := b) hl (w := 2) (c := c.toNat) (conv := cIns) (by omega) (fun n a bad s i => i_BooksRead_L2 b (c, a1, d1) K n (a, bad, s, i)) (fun a bad s => K (a, bad, s)) (fun n a bad s i hi hs => by
      have ei : w64 ((i : Int) + 1) = (i : Int) + 1 := by rw [w64_id] <;> omega
      have c1 : (i : Int) < c := by omega
      rw [i_BooksRead_L2.eq_2, if_pos c1]
      obtain ⟨v1, e1, b1, p1, q1, r1, _⟩ := one_eq hl a bad
      rw [p1, Option.bind_some]
      obtain ⟨v2, e2, b2, p2, q2, r2, _⟩ := one_eq hl e1 b1
      rw [p2, Option.bind_some]
      simp only
      rw [if_pos (by simp only [List.length_map, List.length_singleton]; omega), ei]
      exact ⟨cIns [v1, v2], e2, b2, RowRel.map hl (rowN_succ hl q1 r1 (rowN_succ hl q2 r2 (rowN_zero hl e2 b2))) cIns, rfl⟩) (fun n a bad s => by rw [i_BooksRead_L2.eq_2, if_neg (by simp only; omega)]) a1 d1
  simp only
  rw [k1]
  exact hX lst e bad' (by omega) (sec_rel hl x1 y1 t1 k3 k4)

theorem sec3 {b : List UInt8} (hl : b.length < 1000000000) (a : Int) (bad : Bool) (K : Int × Bool × List MBal → Option (List MAccount × List MInstr × List MBal × List MLot × List MTrade × Int × Bool)) (X : Option (List MAccount × List MInstr × List MBal × List MLot × List MTrade × Int × Bool))
    (hX : ∀ lst e bad', lst.length ≤ 160 → ((bad = true → bad' = true) ∧ (bad = false → match sec b 3 160 a with | some q => lst = q.1.map cBal ∧ e = q.2 ∧ bad' = false | none => bad' = true)) → K (e, bad', lst) = X) :
    (Option.bind (i_numReader_many b a bad (160 : Int)) fun y1 => i_BooksRead_L3 b y1 K FUEL (y1.2.1, y1.2.2, [], (0 : Int))) = X := by
  obtain ⟨c, a1, d1, h1, x1, y1, z1, t1⟩ := many_eq hl a bad 160 (by omega)
  rw [h1, Option.bind_some]
  obtain ⟨lst, e, bad', k1, k2, k3, k4⟩ := rows_loop (α := MBal) (b := b) hl (w := 3) (c := c.toNat) (conv := cBal) (by omega) (fun n a bad s i => i_BooksRead_L3 b (c, a1, d1) K n (a, bad, s, i)) (fun a bad s => K (a, bad, s)) (fun n a bad s i hi hs => by
      have ei : w64 ((i : Int) + 1) = (i : Int) + 1 := by rw [w64_id] <;> omega
      have c1 : (i : Int) < c := by omega
      rw [i_BooksRead_L3.eq_2, if_pos c1]
      obtain ⟨v1, e1, b1, p1, q1, r1, _⟩ := one_eq hl a bad
      rw [p1, Option.bind_some]
      obtain ⟨v2, e2, b2, p2, q2, r2, _⟩ := one_eq hl e1 b1
      rw [p2, Option.bind_some]
      obtain ⟨v3, e3, b3, p3, q3, r3, _⟩ := one_eq hl e2 b2
      rw [p3, Option.bind_some]
      simp only
      rw [if_pos (by simp only [List.length_map, List.length_singleton]; omega), ei]
      exact ⟨cBal [v1, v2, v3], e3, b3, RowRel.map hl (rowN_succ hl q1 r1 (rowN_succ hl q2 r2 (rowN_succ hl q3 r3 (rowN_zero hl e3 b3)))) cBal, rfl⟩) (fun n a bad s => by rw [i_BooksRead_L3.eq_2, if_neg (by simp only; omega)]) a1 d1
  simp only
  rw [k1]
  exact hX lst e bad' (by omega) (sec_rel hl x1 y1 t1 k3 k4)

theorem sec4 {b : List UInt8} (hl : b.length < 1000000000) (a : Int) (bad : Bool) (K : Int × Bool × List MLot → Option (List MAccount × List MInstr × List MBal × List MLot × List MTrade × Int × Bool)) (X : Option (List MAccount × List MInstr × List MBal × List MLot × List MTrade × Int × Bool))
    (hX : ∀ lst e bad', lst.length ≤ 160 → ((bad = true → bad' = true) ∧ (bad = false → match sec b 5 120 a with | some q => lst = q.1.map cLot ∧ e = q.2 ∧ bad' = false | none => bad' = true)) → K (e, bad', lst) = X) :
    (Option.bind (i_numReader_many b a bad (120 : Int)) fun y1 => i_BooksRead_L4 b y1 K FUEL (y1.2.1, y1.2.2, [], (0 : Int))) = X := by
  obtain ⟨c, a1, d1, h1, x1, y1, z1, t1⟩ := many_eq hl a bad 120 (by omega)
  rw [h1, Option.bind_some]
  obtain ⟨lst, e, bad', k1, k2, k3, k4⟩ := rows_loop (α := MLot) (b := b) hl (w := 5) (c := c.toNat) (conv := cLot) (by omega) (fun n a bad s i => i_BooksRead_L4 b (c, a1, d1) K n (a, bad, s, i)) (fun a bad s => K (a, bad, s)) (fun n a bad s i hi hs => by
      have ei : w64 ((i : Int) + 1) = (i : Int) + 1 := by rw [w64_id] <;> omega
      have c1 : (i : Int) < c := by omega
      rw [i_BooksRead_L4.eq_2, if_pos c1]
      obtain ⟨r, e, b', p1, p2, p3⟩ := lot_eq hl a bad
      rw [p1, Option.bind_some, if_pos (by simp only [List.length_map, List.length_singleton]; omega), ei]
      have q1 : r.2.2.2.2.2.1 = e := by rw [p3]
      have q2 : r.2.2.2.2.2.2 = b' := by rw [p3]
      rw [q1, q2]
      exact ⟨cLot [r.1, r.2.1, r.2.2.1, r.2.2.2.1, r.2.2.2.2.1], e, b', RowRel.map hl p2 cLot, rfl⟩) (fun n a bad s => by rw [i_BooksRead_L4.eq_2, if_neg (by simp only; omega)]) a1 d1
  simp only
  rw [k1]
  exact hX lst e bad' (by omega) (sec_rel hl x1 y1 t1 k3 k4)

theorem sec5 {b : List UInt8} (hl : b.length < 1000000000) (a : Int) (bad : Bool) (K : Int × Bool × List MTrade → Option (List MAccount × List MInstr × List MBal × List MLot × List MTrade × Int × Bool)) (X : Option (List MAccount × List MInstr × List MBal × List MLot × List MTrade × Int × Bool))
    (hX : ∀ lst e bad', lst.length ≤ 160 → ((bad = true → bad' = true) ∧ (bad = false → match sec b 8 30 a with | some q => lst = q.1.map cTra ∧ e = q.2 ∧ bad' = false | none => bad' = true)) → K (e, bad', lst) = X) :
    (Option.bind (i_numReader_many b a bad (30 : Int)) fun y1 => i_BooksRead_L5 b y1 K FUEL (y1.2.1, y1.2.2, [], (0 : Int))) = X := by
  obtain ⟨c, a1, d1, h1, x1, y1, z1, t1⟩ := many_eq hl a bad 30 (by omega)
  rw [h1, Option.bind_some]
  obtain ⟨lst, e, bad', k1, k2, k3, k4⟩ := rows_loop (α := MTrade) (b := b) hl (w := 8) (c := c.toNat) (conv := cTra) (by omega) (fun n a bad s i => i_BooksRead_L5 b (c, a1, d1) K n (a, bad, s, i)) (fun a bad s => K (a, bad, s)) (fun n a bad s i hi hs => by
      have ei : w64 ((i : Int) + 1) = (i : Int) + 1 := by rw [w64_id] <;> omega
      have c1 : (i : Int) < c := by omega
      rw [i_BooksRead_L5.eq_2, if_pos c1]
      obtain ⟨r, e, b', p1, p2, p3⟩ := trade_eq hl a bad
      rw [p1, Option.bind_some, if_pos (by simp only [List.length_map, List.length_singleton]; omega), ei]
      have q1 : r.2.2.2.2.2.2.2.2.1 = e := by rw [p3]
      have q2 : r.2.2.2.2.2.2.2.2.2 = b' := by rw [p3]
      rw [q1, q2]
      exact ⟨cTra [r.1, r.2.1, r.2.2.1, r.2.2.2.1, r.2.2.2.2.1, r.2.2.2.2.2.1, r.2.2.2.2.2.2.1, r.2.2.2.2.2.2.2.1], e, b', RowRel.map hl p2 cTra, rfl⟩) (fun n a bad s => by rw [i_BooksRead_L5.eq_2, if_neg (by simp only; omega)]) a1 d1
  simp only
  rw [k1]
  exact hX lst e bad' (by omega) (sec_rel hl x1 y1 t1 k3 k4)

theorem i_BooksRead_eq (b : List UInt8) (hl : b.length < 1000000000) : i_BooksRead b = some (outT (bksO b)) := by
  unfold i_BooksRead bksO parse
  refine sec1 hl 0 false _ _ fun l1 a1 d1 n1 r1 => ?_
  refine sec2 hl a1 d1 _ _ fun l2 a2 d2 n2 r2 => ?_
  refine sec3 hl a2 d2 _ _ fun l3 a3 d3 n3 r3 => ?_
  refine sec4 hl a3 d3 _ _ fun l4 a4 d4 n4 r4 => ?_
  refine sec5 hl a4 d4 _ _ fun l5 a5 d5 n5 r5 => ?_
  obtain ⟨v, e, d, p1, p2, p3, _⟩ := one_eq hl a5 d5
  simp only
  rw [p1, Option.bind_some]
  simp only [ln_map]
  have bad : d = true → (if d = true then some (([] : List MAccount), ([] : List MInstr), ([] : List MBal), ([] : List MLot), ([] : List MTrade), (0 : Int), false) else if e ≠ (b.length : Int) then some ([], [], [], [], [], 0, false) else
      Option.bind (i_BooksOk { Accounts := l1, Instrs := l2, Bals := l3, Lots := l4, Trades := l5, Lot := v }) fun y106 => if ¬ y106 = true then some ([], [], [], [], [], 0, false) else some (l1, l2, l3, l4, l5, v, true)) = some (outT none) := fun h => by rw [if_pos h]; rfl
  have k1 := r1.2 rfl
  cases s1 : sec b 2 20 0 with
  | none => rw [s1] at k1; exact bad (p2 (r5.1 (r4.1 (r3.1 (r2.1 k1)))))
  | some q1 =>
  rw [s1] at k1; simp only at k1
  obtain ⟨rfl, rfl, hd1⟩ := k1
  have k2 := r2.2 hd1
  simp only [Option.bind_some]
  cases s2 : sec b 2 8 q1.2 with
  | none => rw [s2] at k2; exact bad (p2 (r5.1 (r4.1 (r3.1 k2))))
  | some q2 =>
  rw [s2] at k2; simp only at k2
  obtain ⟨rfl, rfl, hd2⟩ := k2
  have k3 := r3.2 hd2
  simp only [Option.bind_some]
  cases s3 : sec b 3 160 q2.2 with
  | none => rw [s3] at k3; exact bad (p2 (r5.1 (r4.1 k3)))
  | some q3 =>
  rw [s3] at k3; simp only at k3
  obtain ⟨rfl, rfl, hd3⟩ := k3
  have k4 := r4.2 hd3
  simp only [Option.bind_some]
  cases s4 : sec b 5 120 q3.2 with
  | none => rw [s4] at k4; exact bad (p2 (r5.1 k4))
  | some q4 =>
  rw [s4] at k4; simp only at k4
  obtain ⟨rfl, rfl, hd4⟩ := k4
  have k5 := r5.2 hd4
  simp only [Option.bind_some]
  cases s5 : sec b 8 30 q4.2 with
  | none => rw [s5] at k5; exact bad (p2 k5)
  | some q5 =>
  rw [s5] at k5; simp only at k5
  obtain ⟨rfl, rfl, hd5⟩ := k5
  have k6 := p3 hd5
  simp only [Option.bind_some]
  cases hg : gn b q5.2 with
  | none => rw [hg] at k6; exact bad k6.1
  | some p =>
  rw [hg] at k6; simp only at k6
  obtain ⟨rfl, rfl, hd6⟩ := k6
  simp only [Option.bind_some]
  rw [if_neg (by rw [hd6]; simp)]
  simp only [List.length_map] at n1 n2 n3 n4 n5
  have hsm : SMB ⟨q1.1.map cAcc, q2.1.map cIns, q3.1.map cBal, q4.1.map cLot, q5.1.map cTra, p.1⟩ := by
    refine ⟨?_, ?_, ?_, ?_, ?_⟩ <;> simp only [List.length_map] <;> omega
  rw [i_BooksOk_eq hsm, Option.bind_some]
  by_cases hp : p.2 = (b.length : Int)
  · by_cases hb : BkOk ⟨q1.1.map cAcc, q2.1.map cIns, q3.1.map cBal, q4.1.map cLot, q5.1.map cTra, p.1⟩
    · rw [if_neg (fun h => h hp), decide_eq_true hb, if_neg (by simp), if_pos ⟨hp, hb⟩]; rfl
    · rw [if_neg (fun h => h hp), decide_eq_false hb, if_pos (by simp), if_neg (fun h => hb h.2)]; rfl
  · rw [if_pos hp, if_neg (fun h => hp h.1)]; rfl

end Go.Proofs.YtbknlijpkabcnaaGreat.K
