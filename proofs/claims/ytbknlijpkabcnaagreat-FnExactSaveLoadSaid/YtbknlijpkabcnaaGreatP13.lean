/- Disks that are right, read; a save read: both sides. No condition. -/
import Derived.Test.YtbknlijpkabcnaaGreatP12
namespace Go.Proofs.YtbknlijpkabcnaaGreat.K
set_option linter.all false
open Go
open Classical

def filForm (x : MFile) : Prop := 0 ≤ x.Name ∧ x.Name ≤ 21
def filAdj (p x : MFile) : Prop := p.Name < x.Name
/-- How many bytes all files have. -/
def tot (l : List MFile) : Nat := (l.map fun f => f.Safe.length + f.Late.length).sum
def DskOk (d : MDisk) : Prop := Chk filForm filAdj d.Files ∧ (0 ≤ d.Room ∧ d.Room ≤ 60000) ∧ (tot d.Files : Int) ≤ d.Room
/-- Disks that are not too great. -/
def SMD (d : MDisk) : Prop := d.Files.length < 100000000 ∧ tot d.Files < 100000000

theorem tot_cons (x : MFile) (l : List MFile) : tot (x :: l) = x.Safe.length + x.Late.length + tot l := by simp [tot]
theorem tot_mem {l : List MFile} {x : MFile} (h : x ∈ l) : x.Safe.length + x.Late.length ≤ tot l := by
  induction l with
  | nil => cases h
  | cons y l ih =>
    rw [tot_cons]
    rcases List.mem_cons.1 h with e | e
    · subst e; omega
    · have := ih e; omega

theorem fil_le {l : List MFile} (h : Chk filForm filAdj l) : ∀ (j : Nat) (x : MFile), l[j]? = some x → (j : Int) ≤ x.Name
  | 0, x, hx => (h 0 x hx).1.1
  | j + 1, x, hx => by
    have hlt := (List.getElem?_eq_some_iff.1 hx).1
    have hp : l[j]? = some (l[j]'(by omega)) := List.getElem?_eq_getElem _
    have h1 := fil_le h j _ hp
    have h2 := (h (j + 1) x hx).2 (by omega) _ hp
    unfold filAdj at h2
    omega
theorem fil_len {l : List MFile} (h : Chk filForm filAdj l) : l.length ≤ 22 := by
  rcases Nat.lt_or_ge 22 l.length with hc | hc
  · have hp : l[22]? = some l[22] := List.getElem?_eq_getElem hc
    have h1 := fil_le h 22 _ hp
    have h2 := (h 22 _ hp).1.2
    omega
  · exact hc

section
variable {d : MDisk} (hs : SMD d)
include hs

theorem i_usedRoom_eq : i_usedRoom d = some (tot d.Files : Int) := by
  unfold i_usedRoom
  rw [scan (l := d.Files) (S := Int) (fun n s i => i_usedRoom_L1 d (fun w => some w) n (s, i)) (fun s x k => k (w64 (s + w64 (ln x.Safe + ln x.Late)))) (fun s => some s) (by have := hs.1; omega)
    (fun n s i x hx hi => by
      obtain ⟨e1, e2, c1, c2⟩ := ixf hi (by have := hs.1; omega)
      rw [i_usedRoom_L1.eq_2, ln_map, if_pos c1, if_pos c2, e2, hx, Option.bind_some, e1])
    (fun s x f g hfg => hfg _) (fun n s => by rw [i_usedRoom_L1.eq_2, ln_map, if_neg (by omega)]) 0]
  have key : ∀ (m : List MFile) (s : Nat), s + tot m < 1000000000 → goL (R := Int) (fun s (x : MFile) k => k (w64 (s + w64 (ln x.Safe + ln x.Late)))) (fun s => some s) m (s : Int) = some ((s + tot m : Nat) : Int) := by
    intro m
    induction m with
    | nil => intro s _; simp [goL, tot]
    | cons x m ih =>
      intro s h
      rw [tot_cons] at h ⊢
      simp only [goL]
      rw [w64_id (n := ln x.Safe + ln x.Late) (by simp only [ln]; omega) (by simp only [ln]; omega), w64_id (by simp only [ln]; omega) (by simp only [ln]; omega)]
      rw [show (s : Int) + (ln x.Safe + ln x.Late) = ((s + (x.Safe.length + x.Late.length) : Nat) : Int) by simp [ln], ih _ (by omega)]
      congr 2; omega
  have := key d.Files 0 (by have := hs.2; omega)
  rw [show ((0 : Nat) : Int) = 0 from rfl, Nat.zero_add] at this
  exact this

theorem s_l14Size_eq : s_l14Size d = some (tot d.Files : Int) := by
  unfold s_l14Size
  rw [scan (l := d.Files) (S := Int) (fun n s i => s_l14Size_L1 d (fun w => some w) n (s, i)) (fun s x k => k (w64 (w64 (s + ln x.Safe) + ln x.Late))) (fun s => some s) (by have := hs.1; omega)
    (fun n s i x hx hi => by
      obtain ⟨e1, e2, c1, c2⟩ := ixf hi (by have := hs.1; omega)
      rw [s_l14Size_L1.eq_2, ln_map, if_pos c1, if_pos c2, e2, hx, Option.bind_some, e1])
    (fun s x f g hfg => hfg _) (fun n s => by rw [s_l14Size_L1.eq_2, ln_map, if_neg (by omega)]) 0]
  have key : ∀ (m : List MFile) (s : Nat), s + tot m < 1000000000 → goL (R := Int) (fun s (x : MFile) k => k (w64 (w64 (s + ln x.Safe) + ln x.Late))) (fun s => some s) m (s : Int) = some ((s + tot m : Nat) : Int) := by
    intro m
    induction m with
    | nil => intro s _; simp [goL, tot]
    | cons x m ih =>
      intro s h
      rw [tot_cons] at h ⊢
      simp only [goL]
      rw [w64_id (n := (s : Int) + ln x.Safe) (by simp only [ln]; omega) (by simp only [ln]; omega), w64_id (by simp only [ln]; omega) (by simp only [ln]; omega)]
      rw [show (s : Int) + ln x.Safe + ln x.Late = ((s + (x.Safe.length + x.Late.length) : Nat) : Int) by simp [ln, Int.add_assoc], ih _ (by omega)]
      congr 2; omega
  have := key d.Files 0 (by have := hs.2; omega)
  rw [show ((0 : Nat) : Int) = 0 from rfl, Nat.zero_add] at this
  exact this

theorem i_isFile_eq (n : Int) : i_isFile n = some (decide (0 ≤ n ∧ n ≤ 21)) := by simp [i_isFile, i_in_eq]
theorem s_l14Name_eq (n : Int) : s_l14Name n = some (decide (0 ≤ n ∧ n ≤ 21)) := by simp [s_l14Name, s_l1In_eq]

theorem i_DiskOk_eq : i_DiskOk d = some (decide (DskOk d)) := by
  have hl : d.Files.length < 1000000000 := by have := hs.1; omega
  unfold i_DiskOk
  rw [chk_loop (l := d.Files) (i_DiskOk_L1 d _) filForm filAdj (some (decide ((0 ≤ d.Room ∧ d.Room ≤ 60000) ∧ (tot d.Files : Int) ≤ d.Room))) (some false) hl]
  · by_cases h : Chk filForm filAdj d.Files
    · rw [if_pos h]; simp [DskOk, h]
    · rw [if_neg h]; simp [DskOk, h]
  · intro n x hx
    have h0 : 0 < d.Files.length := (List.getElem?_eq_some_iff.1 hx).1
    have e5 : w64 ((0 : Int) + 1) = 1 := by rw [w64_id] <;> omega
    rw [i_DiskOk_L1.eq_2]
    simp only [ln_map, i_isFile_eq hs, filForm, Option.bind_some, Int.toNat_zero, hx, e5]
    grind (splits := 60)
  · intro n j p x hp hx hj
    have e1 : w64 ((j : Int) + 1 - 1) = j := by rw [w64_id] <;> omega
    have e2 : w64 ((j : Int) + 1 + 1) = (j : Int) + 2 := by rw [w64_id] <;> omega
    have e3 : Int.toNat ((j : Int) + 1) = j + 1 := by omega
    have e4 : Int.toNat (j : Int) = j := by omega
    rw [i_DiskOk_L1.eq_2]
    simp only [ln_map, i_isFile_eq hs, filForm, filAdj, Option.bind_some, e1, e2, e3, e4, hx, hp]
    grind (splits := 60)
  · intro n
    rw [i_DiskOk_L1.eq_2]
    simp only [ln_map, Int.lt_irrefl, if_false, i_in_eq, Option.bind_some, i_usedRoom_eq hs, decide_eq_true_eq]
    by_cases h : 0 ≤ d.Room ∧ d.Room ≤ 60000 <;> simp [h]

theorem s_DiskOk_eq : s_DiskOk d = some (decide (DskOk d)) := by
  have hl : d.Files.length < 1000000000 := by have := hs.1; omega
  unfold s_DiskOk
  simp only [s_l1In_eq, Option.bind_some, decide_eq_true_eq, ln_map, s_l14Size_eq hs]
  by_cases h : 0 ≤ d.Room ∧ d.Room ≤ 60000
  · rw [if_neg (fun n => n h)]
    by_cases h22 : (22 : Int) < (d.Files.length : Int)
    · rw [if_pos h22]
      have : ¬ DskOk d := fun k => by have := fil_len k.1; omega
      simp [this]
    · rw [if_neg h22]
      by_cases ht : d.Room < (tot d.Files : Int)
      · rw [if_pos ht]
        have : ¬ DskOk d := fun k => by have := k.2.2; omega
        simp [this]
      · rw [if_neg ht]
        rw [chk_loop (l := d.Files) (s_DiskOk_L1 d _) filForm filAdj (some true) (some false) hl]
        · have ht' : (tot d.Files : Int) ≤ d.Room := by omega
          by_cases hc : Chk filForm filAdj d.Files
          · rw [if_pos hc]; simp [DskOk, hc, h, ht']
          · rw [if_neg hc]; simp [DskOk, hc]
        · intro n x hx
          have h0 : 0 < d.Files.length := (List.getElem?_eq_some_iff.1 hx).1
          have e5 : w64 ((0 : Int) + 1) = 1 := by rw [w64_id] <;> omega
          rw [s_DiskOk_L1.eq_2]
          simp only [ln_map, s_l14Name_eq hs, filForm, Option.bind_some, Int.toNat_zero, hx, e5]
          grind (splits := 60)
        · intro n j p x hp hx hj
          have e1 : w64 ((j : Int) + 1 - 1) = j := by rw [w64_id] <;> omega
          have e2 : w64 ((j : Int) + 1 + 1) = (j : Int) + 2 := by rw [w64_id] <;> omega
          have e3 : Int.toNat ((j : Int) + 1) = j + 1 := by omega
          have e4 : Int.toNat (j : Int) = j := by omega
          rw [s_DiskOk_L1.eq_2]
          simp only [ln_map, s_l14Name_eq hs, filForm, filAdj, Option.bind_some, e1, e2, e3, e4, hx, hp]
          grind (splits := 60)
        · intro n
          rw [s_DiskOk_L1.eq_2]
          simp [ln_map]
  · rw [if_pos h]
    have : ¬ DskOk d := fun k => h k.2.1
    simp [this]

/-- Where a file stands. -/
def fAt (d : MDisk) (n : Int) : Int := fi (fun x : MFile => decide (x.Name = n)) d.Files
theorem i_fileAt_eq (n : Int) : i_fileAt d n = some (fAt d n) := by
  have hl : d.Files.length < 1000000000 := by have := hs.1; omega
  unfold i_fileAt g_IndexFunc_File
  rw [idx_loop (l := d.Files) (g_IndexFunc_File_L1 d.Files n _) (fun x => decide (x.Name = n)) hl (fun m i x hx hi => ?_) (fun m => ?_)]
  · rfl
  · obtain ⟨e1, e2, c1, c2⟩ := ixf hi hl
    rw [g_IndexFunc_File_L1.eq_2, ln_map, if_pos c1, if_pos c2, e2, hx, Option.bind_some, e1]
    simp only [i_fileAt_c1, Option.bind_some]
  · rw [g_IndexFunc_File_L1.eq_2, ln_map, if_neg (by omega)]
theorem s_l14Find_eq (n : Int) : s_l14Find d n = some (fAt d n) := by
  have hl : d.Files.length < 1000000000 := by have := hs.1; omega
  unfold s_l14Find
  refine idx_loop (l := d.Files) (s_l14Find_L1 d n _) (fun x => decide (x.Name = n)) hl (fun m i x hx hi => ?_) (fun m => ?_)
  · obtain ⟨e1, e2, c1, c2⟩ := ixf hi hl
    rw [s_l14Find_L1.eq_2, ln_map, if_pos c1, if_pos c2, e2, hx, Option.bind_some, e1]
    simp only [decide_eq_true_eq]
  · rw [s_l14Find_L1.eq_2, ln_map, if_neg (by omega)]

/-- What a file holds. -/
noncomputable def dRead (d : MDisk) (n : Int) : List UInt8 × Bool :=
  if DskOk d then (match d.Files[(fAt d n).toNat]? with | some f => if 0 ≤ fAt d n then (f.Safe ++ f.Late, true) else ([], false) | none => ([], false)) else ([], false)
theorem dRead_len (n : Int) : (dRead d n).1.length < 100000000 := by
  have := hs.2
  unfold dRead
  split
  · split
    · rename_i f hf
      split
      · have := tot_mem (List.mem_of_getElem? hf); simp only [List.length_append]; omega
      · simp
    · simp
  · simp
theorem i_DiskRead_eq (n : Int) : i_DiskRead d n = some (dRead d n) := by
  unfold i_DiskRead dRead
  rw [i_fileAt_eq hs, Option.bind_some, i_DiskOk_eq hs, Option.bind_some]
  by_cases h : fAt d n < 0
  · rw [if_pos h]
    by_cases hd : DskOk d
    · rw [if_pos hd]
      cases d.Files[(fAt d n).toNat]? with
      | none => rfl
      | some f => simp only; rw [if_neg (by omega)]
    · rw [if_neg hd]
  · rw [if_neg h]
    by_cases hd : DskOk d
    · rw [if_pos hd, decide_eq_true hd, if_neg (by simp), if_pos (by omega)]
      obtain ⟨i, hi, e, _⟩ := fi_pos (p := fun x : MFile => decide (x.Name = n)) (l := d.Files) (by unfold fAt at h; omega)
      have e' : (fAt d n).toNat = i := by unfold fAt; omega
      rw [e', List.getElem?_eq_getElem hi, Option.bind_some]
      simp only
      have := tot_mem (List.getElem_mem hi)
      have h2 := hs.2
      rw [if_pos (by simp only [maxLen]; omega), if_pos (by omega)]
    · rw [if_neg hd, decide_eq_false hd, if_pos (by simp)]
theorem s_DiskRead_eq (n : Int) : s_DiskRead d n = some (dRead d n) := by
  unfold s_DiskRead dRead
  rw [s_l14Find_eq hs, Option.bind_some, s_DiskOk_eq hs, Option.bind_some]
  by_cases hd : DskOk d
  · rw [if_pos hd, decide_eq_true hd, if_neg (by simp)]
    by_cases h : fAt d n < 0
    · rw [if_pos h]
      cases d.Files[(fAt d n).toNat]? with
      | none => rfl
      | some f => simp only; rw [if_neg (by omega)]
    · rw [if_neg h, if_pos (by omega)]
      obtain ⟨i, hi, e, _⟩ := fi_pos (p := fun x : MFile => decide (x.Name = n)) (l := d.Files) (by unfold fAt at h; omega)
      have e' : (fAt d n).toNat = i := by unfold fAt; omega
      rw [e', List.getElem?_eq_getElem hi, Option.bind_some]
      simp only
      have := tot_mem (List.getElem_mem hi)
      have h2 := hs.2
      rw [if_pos (by simp only [maxLen]; omega), if_pos (by omega)]
  · rw [if_neg hd, decide_eq_false hd, if_pos (by simp)]

end

/-- What is read is what would be written. -/
theorem nums_rows {α : Type} (f : α → List Int) (c : List Int → α) (w : Nat) (h : ∀ r : List Int, r.length = w → (∀ n ∈ r, inR n) → f (c r) = r) : ∀ (rows : List (List Int)), (∀ r ∈ rows, r.length = w ∧ ∀ n ∈ r, inR n) → (rows.map c).flatMap f = rows.flatten
  | [], _ => rfl
  | r :: rows, hr => by
    rw [List.map_cons, List.flatMap_cons, List.flatten_cons, nums_rows f c w h rows fun x hx => hr x (List.mem_cons_of_mem _ hx), h r (hr r (List.mem_cons_self ..)).1 (hr r (List.mem_cons_self ..)).2]

theorem parse_encs {b : List UInt8} {q : MBooks × Int} (h : parse b = some q) (he : q.2 = b.length) : encs (nums q.1) = b := by
  unfold parse at h
  cases s1 : sec b 2 20 0 with
  | none => rw [s1] at h; cases h
  | some q1 =>
  rw [s1, Option.bind_some] at h
  cases s2 : sec b 2 8 q1.2 with
  | none => rw [s2] at h; cases h
  | some q2 =>
  rw [s2, Option.bind_some] at h
  cases s3 : sec b 3 160 q2.2 with
  | none => rw [s3] at h; cases h
  | some q3 =>
  rw [s3, Option.bind_some] at h
  cases s4 : sec b 5 120 q3.2 with
  | none => rw [s4] at h; cases h
  | some q4 =>
  rw [s4, Option.bind_some] at h
  cases s5 : sec b 8 30 q4.2 with
  | none => rw [s5] at h; cases h
  | some q5 =>
  rw [s5, Option.bind_some] at h
  cases hg : gn b q5.2 with
  | none => rw [hg] at h; cases h
  | some p =>
  rw [hg, Option.bind_some] at h
  simp only [Option.some.injEq] at h
  subst h
  simp only at he
  obtain ⟨_, b12, _, b14, b15, b16, b17⟩ := sec_bd (by omega) s1
  obtain ⟨_, b22, _, b24, b25, b26, b27⟩ := sec_bd (by omega) s2
  obtain ⟨_, b32, _, b34, b35, b36, b37⟩ := sec_bd (by omega) s3
  obtain ⟨_, b42, _, b44, b45, b46, b47⟩ := sec_bd (by omega) s4
  obtain ⟨_, b52, _, b54, b55, b56, b57⟩ := sec_bd (by omega) s5
  obtain ⟨g1, g2, g3, g4, g5, g6, g7⟩ := gn_bd (v := p.1) (e := p.2) hg
  unfold nums
  simp only [List.length_map]
  rw [nums_rows nAcc cAcc 2 (fun r h _ => by obtain ⟨x, y, rfl⟩ := len2 h; rfl) _ b12, nums_rows nIns cIns 2 (fun r h _ => by obtain ⟨x, y, rfl⟩ := len2 h; rfl) _ b22,
    nums_rows nBal cBal 3 (fun r h hr => by
      obtain ⟨x, y, z, rfl⟩ := len3 h
      have hz := hr z (by simp)
      unfold inR at hz
      show [x, y, w64 (w64 (z - 1000000000000000) + 1000000000000000)] = [x, y, z]
      rw [w64_id (n := z - 1000000000000000) (by omega) (by omega), w64_id (by omega) (by omega)]
      congr 3; omega) _ b32,
    nums_rows nLot cLot 5 (fun r h _ => by obtain ⟨x, y, z, u, v, rfl⟩ := len5 h; rfl) _ b42, nums_rows nTra cTra 8 (fun r h _ => by obtain ⟨x, y, z, u, v, a, c, d, rfl⟩ := len8 h; rfl) _ b52]
  simp only [encs_append]
  have e1 : ∀ n : Nat, encs [(n : Int)] = enc n := fun n => by simp [encs]
  have e2 : encs [p.1] = enc p.1.toNat := by simp [encs]
  simp only [e1, e2]
  have j : ∀ (x y z : Int), 0 ≤ x → x ≤ y → y ≤ z → (b.drop x.toNat).take (y - x).toNat ++ (b.drop y.toNat).take (z - y).toNat = (b.drop x.toNat).take (z - x).toNat := by
    intro x y z h1 h2 h3
    have e1 : (z - x).toNat = (y - x).toNat + (z - y).toNat := by omega
    have e2 : (b.drop x.toNat).drop (y - x).toNat = b.drop y.toNat := by rw [List.drop_drop]; congr 1; omega
    rw [e1, List.take_add, e2]
  have k1 := j 0 q1.2 q2.2 (by omega) b14 b24
  have k2 := j 0 q2.2 q3.2 (by omega) (by omega) b34
  have k3 := j 0 q3.2 q4.2 (by omega) (by omega) b44
  have k4 := j 0 q4.2 q5.2 (by omega) (by omega) b54
  have k5 := j 0 q5.2 p.2 (by omega) (by omega) (by omega)
  rw [b17, b27] at k1
  rw [← k1, b37] at k2
  rw [← k2, b47] at k3
  rw [← k3, b57] at k4
  rw [← k4, g7] at k5
  rw [he] at k5
  simp only [Int.toNat_zero, List.drop_zero, Int.sub_zero, Int.toNat_natCast, List.take_length] at k5
  simpa [List.append_assoc] using k5

theorem uns_seal {t body : List UInt8} {e : Int} (h : uns t 0 = (body, e, 0)) (he : e = t.length) : body.length ≤ 9000 ∧ sealB body = t := by
  unfold uns at h
  cases hg : gn t 0 with
  | none => rw [hg] at h; simp at h
  | some p =>
    obtain ⟨n, m⟩ := p
    rw [hg] at h
    obtain ⟨g1, g2, g3, g4, g5, g6, g7⟩ := gn_bd hg
    simp only at h
    split at h
    · simp at h
    · split at h
      · simp at h
      · split at h
        · rename_i h1 h2 h3
          simp only [Prod.mk.injEq, and_true] at h
          obtain ⟨rfl, h5⟩ := h
          have hlen : ((t.drop m.toNat).take n.toNat).length = n.toNat := by rw [List.length_take, List.length_drop]; omega
          refine ⟨by omega, ?_⟩
          unfold sealB
          rw [hlen, h3]
          have e0 : t.take m.toNat = enc n.toNat := by simpa using g7
          rw [← e0]
          have e1 : t.take m.toNat ++ (t.drop m.toNat).take n.toNat = t.take (m.toNat + n.toNat) := by rw [List.take_add]
          rw [e1]
          have e2 : t.take (m.toNat + n.toNat) ++ (t.drop (m.toNat + n.toNat)).take 4 = t.take (m.toNat + n.toNat + 4) := by rw [← List.take_add]
          rw [e2, List.take_of_length_le (by omega)]
        · simp at h

end Go.Proofs.YtbknlijpkabcnaaGreat.K
