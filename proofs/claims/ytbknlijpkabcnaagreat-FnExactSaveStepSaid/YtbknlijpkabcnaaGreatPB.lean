/- Plain laws, merged out of P16 P17 P18 P19 P20 P21 P22. No condition. -/
import Derived.Test.YtbknlijpkabcnaaGreatA1F1
import Derived.Test.YtbknlijpkabcnaaGreatPA
import Derived.Test.YtbknlijpkabcnaaGreatA1RD
/- Files put, dropped and sorted. No condition. -/
namespace Go.Proofs.YtbknlijpkabcnaaGreat.K
set_option linter.all false
open Go
open Classical

/-- A file put in its place: what has its name falls. -/
def putR (f : MFile) : List MFile → List MFile
  | [] => [f]
  | x :: r => if f.Name ≤ x.Name then f :: (x :: r).filter (fun y => decide (y.Name ≠ f.Name)) else x :: putR f r
/-- A file put ahead of the first that is not before it. -/
def insR (f : MFile) : List MFile → List MFile
  | [] => [f]
  | x :: r => if x.Name < f.Name then x :: insR f r else f :: x :: r
def noN (n : Int) (l : List MFile) : List MFile := l.filter fun y => decide (y.Name ≠ n)
def srt (l : List MFile) : Prop := l.Pairwise fun a b => a.Name < b.Name

theorem srt_of {l : List MFile} (h : Chk filForm filAdj l) : srt l := by
  have key : ∀ (m i : Nat) (h1 : i < l.length) (h2 : i + m + 1 < l.length), (l[i]).Name < (l[i + m + 1]).Name := by
    intro m
    induction m with
    | zero =>
      intro i h1 h2
      have := (h (i + 1) l[i + 1] (List.getElem?_eq_getElem _)).2 (by omega) l[i] (by rw [Nat.add_sub_cancel]; exact List.getElem?_eq_getElem _)
      exact this
    | succ m ih =>
      intro i h1 h2
      have a := ih i h1 (by omega)
      have := (h (i + (m + 1) + 1) l[i + (m + 1) + 1] (List.getElem?_eq_getElem _)).2 (by omega) l[i + m + 1] (by rw [Nat.add_sub_cancel]; exact List.getElem?_eq_getElem _)
      have t : (l[i + m + 1]).Name < (l[i + (m + 1) + 1]).Name := this
      omega
  refine List.pairwise_iff_getElem.2 fun i j hi hj hij => ?_
  have := key (j - i - 1) i hi (by omega)
  have e : i + (j - i - 1) + 1 = j := by omega
  simp only [e] at this
  exact this

theorem noN_self {n : Int} {l : List MFile} (h : ∀ x ∈ l, x.Name ≠ n) : noN n l = l := List.filter_eq_self.2 fun x hx => by simpa using h x hx
theorem ins_lt (f : MFile) : ∀ (l : List MFile), (∀ x ∈ l, f.Name < x.Name) → insR f l = f :: l
  | [], _ => rfl
  | x :: r, h => by rw [insR, if_neg (by have := h x (List.mem_cons_self ..); omega)]
theorem putR_drop (f : MFile) : ∀ (l : List MFile), srt l → putR f l = insR f (noN f.Name l)
  | [], _ => rfl
  | x :: r, h => by
    obtain ⟨h1, h2⟩ := List.pairwise_cons.1 h
    rw [putR]
    split
    · rename_i hle
      symm
      refine ins_lt f _ fun y hy => ?_
      obtain ⟨hy1, hy2⟩ := List.mem_filter.1 hy
      have hy3 : y.Name ≠ f.Name := by simpa using hy2
      rcases List.mem_cons.1 hy1 with e | e
      · subst e; omega
      · have := h1 y e; omega
    · rename_i hle
      rw [noN, List.filter_cons_of_pos (by simp; omega), insR, if_pos (by omega), putR_drop f r h2]
      rfl
theorem putR_set (f x : MFile) (hn : x.Name = f.Name) : ∀ (l : List MFile) (i : Nat), srt l → l[i]? = some x → putR f l = l.set i f
  | [], i, _, h => by simp at h
  | y :: r, 0, h, hx => by
    obtain ⟨h1, h2⟩ := List.pairwise_cons.1 h
    obtain rfl : y = x := by simpa using hx
    rw [putR, if_pos (by omega), List.filter_cons_of_neg (by simp [hn]), List.set_cons_zero]
    congr 1
    exact List.filter_eq_self.2 fun z hz => by have := h1 z hz; simp; omega
  | y :: r, i + 1, h, hx => by
    obtain ⟨h1, h2⟩ := List.pairwise_cons.1 h
    rw [List.getElem?_cons_succ] at hx
    have := h1 x (List.mem_of_getElem? hx)
    rw [putR, if_neg (by omega), putR_set f x hn r i h2 hx, List.set_cons_succ]
theorem erase_drop (x : MFile) : ∀ (l : List MFile) (i : Nat), srt l → l[i]? = some x → l.eraseIdx i = noN x.Name l
  | [], i, _, h => by simp at h
  | y :: r, 0, h, hx => by
    obtain ⟨h1, h2⟩ := List.pairwise_cons.1 h
    obtain rfl : y = x := by simpa using hx
    rw [List.eraseIdx_cons_zero, noN, List.filter_cons_of_neg (by simp)]
    exact (List.filter_eq_self.2 fun z hz => by have := h1 z hz; simp; omega).symm
  | y :: r, i + 1, h, hx => by
    obtain ⟨h1, h2⟩ := List.pairwise_cons.1 h
    rw [List.getElem?_cons_succ] at hx
    have := h1 x (List.mem_of_getElem? hx)
    rw [List.eraseIdx_cons_succ, noN, List.filter_cons_of_pos (by simp; omega), erase_drop x r i h2 hx]; rfl
theorem ins_set (n : Int) (f g : MFile) (hf : f.Name = n) (hg : g.Name = n) : ∀ (l : List MFile), (∀ x ∈ l, x.Name ≠ n) →
    ∃ j, (insR f l).findIdx? (fun x => decide (x.Name = n)) = some j ∧ (insR f l)[j]? = some f ∧ (insR f l).set j g = insR g l
  | [], _ => ⟨0, by simp [insR, hf], rfl, rfl⟩
  | x :: r, h => by
    have hx := h x (List.mem_cons_self ..)
    by_cases hlt : x.Name < n
    · obtain ⟨j, h1, h2, h3⟩ := ins_set n f g hf hg r fun y hy => h y (List.mem_cons_of_mem _ hy)
      refine ⟨j + 1, ?_, ?_, ?_⟩
      · rw [insR, if_pos (by omega), List.findIdx?_cons, if_neg (by simpa using hx), h1]; rfl
      · rw [insR, if_pos (by omega), List.getElem?_cons_succ]; exact h2
      · rw [insR, insR, if_pos (by omega), if_pos (by omega), List.set_cons_succ, h3]
    · refine ⟨0, ?_, ?_, ?_⟩
      · rw [insR, if_neg (by omega), List.findIdx?_cons, if_pos (by simpa using hf)]
      · rw [insR, if_neg (by omega)]; rfl
      · rw [insR, insR, if_neg (by omega), if_neg (by omega)]; rfl
theorem ins_len (f : MFile) : ∀ (l : List MFile), (insR f l).length = l.length + 1
  | [] => rfl
  | x :: r => by
    rw [insR]; split
    · simp [ins_len f r]
    · simp
theorem ins_tot (f : MFile) : ∀ (l : List MFile), tot (insR f l) = tot l + (f.Safe.length + f.Late.length)
  | [] => by simp [insR, tot]
  | x :: r => by
    rw [insR]; split
    · rw [tot_cons, tot_cons, ins_tot f r]; omega
    · rw [tot_cons, tot_cons]; omega
theorem tot_filter (p : MFile → Bool) : ∀ (l : List MFile), tot (l.filter p) ≤ tot l
  | [] => by simp [tot]
  | x :: r => by
    have := tot_filter p r
    rw [List.filter_cons]; split <;> simp only [tot_cons] <;> omega
theorem tot_set (g : MFile) : ∀ (l : List MFile) (i : Nat) (x : MFile), l[i]? = some x → tot (l.set i g) + (x.Safe.length + x.Late.length) = tot l + (g.Safe.length + g.Late.length)
  | [], i, x, h => by simp at h
  | y :: r, 0, x, h => by
    obtain rfl : y = x := by simpa using h
    rw [List.set_cons_zero, tot_cons, tot_cons]; omega
  | y :: r, i + 1, x, h => by
    rw [List.getElem?_cons_succ] at h
    have := tot_set g r i x h
    rw [List.set_cons_succ, tot_cons, tot_cons]; omega

/-- The index behind those that are before. -/
def twN (n : Int) : List MFile → Nat
  | [] => 0
  | x :: r => if x.Name < n then twN n r + 1 else 0
theorem twN_le (n : Int) : ∀ (l : List MFile), twN n l ≤ l.length
  | [] => Nat.le_refl _
  | x :: r => by have := twN_le n r; rw [twN, List.length_cons]; split <;> omega
theorem ins_tw (f : MFile) : ∀ (l : List MFile), l.take (twN f.Name l) ++ [f] ++ l.drop (twN f.Name l) = insR f l
  | [] => rfl
  | x :: r => by
    rw [twN, insR]; split
    · rw [List.take_succ_cons, List.drop_succ_cons, ← ins_tw f r]; rfl
    · rfl

theorem i_Disk_put_eq (q : Int) (l : List MFile) (f : MFile) (hl : l.length < 100000000) : i_Disk_put q l f = some (insR f l) := by
  unfold i_Disk_put
  have key : ∀ n (j : Nat) (K : Int → Option (List MFile)), j ≤ l.length → l.length - j < n → i_Disk_put_L1 l f K n (j : Int) = K ((j + twN f.Name (l.drop j) : Nat) : Int) := by
    intro n
    induction n with
    | zero => intro j K _ h; omega
    | succ n ih =>
      intro j K hj hn
      rw [i_Disk_put_L1.eq_2, ln_map]
      rcases Nat.lt_or_ge j l.length with h | h
      · obtain ⟨e1, e2, c1, c2⟩ := ixf (m := l.length) h (by omega)
        have hx : l[j]? = some l[j] := List.getElem?_eq_getElem h
        rw [if_pos c1, if_pos ⟨c2, c1⟩, e2, hx, Option.bind_some, e1, List.drop_eq_getElem_cons h, twN]
        split
        · have := ih (j + 1) K h (by omega)
          rw [show ((j + 1 : Nat) : Int) = (j : Int) + 1 by omega] at this
          rw [this]; congr 2; omega
        · rfl
      · rw [if_neg (by omega), List.drop_eq_nil_of_le h]; rfl
  have := key FUEL 0 (fun w12 => (Option.bind (g_Insert_File l w12 [f]) fun y13 => some y13)) (Nat.zero_le _) (FUEL_gt (by omega))
  rw [show ((0 : Nat) : Int) = 0 from rfl] at this
  rw [this, List.drop_zero, Nat.zero_add]
  have hle := twN_le f.Name l
  simp only [g_Insert_File]
  rw [if_pos (by refine ⟨by omega, by omega, by simp, ?_⟩; simp only [List.length_cons, List.length_nil]; omega), Option.bind_some, Int.toNat_natCast, ins_tw]

theorem s_l14Put_eq (d : MDisk) (f : MFile) (hl : d.Files.length < 100000000) : s_l14Put d f = some (d.Room, putR f d.Files) := by
  unfold s_l14Put
  have hs := scan (l := d.Files) (S := List MFile × Bool) (R := Int × List MFile) (fun n s j => s_l14Put_L1 d f (fun (w30, w31) => (if ¬ (w31 = true) then (if (List.length (List.map MFile.av w30) + List.length (List.map MFile.av [f])) * 40 ≤ 140737488355328 then some (d.Room, (w30 ++ [f])) else none) else some (d.Room, w30))) n (s.1, s.2, j))
    (fun s x k => if ¬ (s.2 = true) then (if f.Name ≤ x.Name then (if (List.length s.1 + 1) * 40 ≤ 140737488355328 then (if x.Name ≠ f.Name then (if (List.length s.1 + 2) * 40 ≤ 140737488355328 then k (s.1 ++ [f] ++ [x], true) else none) else k (s.1 ++ [f], true)) else none) else (if x.Name ≠ f.Name then (if (List.length s.1 + 1) * 40 ≤ 140737488355328 then k (s.1 ++ [x], s.2) else none) else k (s.1, s.2)))
      else (if x.Name ≠ f.Name then (if (List.length s.1 + 1) * 40 ≤ 140737488355328 then k (s.1 ++ [x], s.2) else none) else k (s.1, s.2)))
    (fun s => if ¬ (s.2 = true) then (if (List.length s.1 + 1) * 40 ≤ 140737488355328 then some (d.Room, s.1 ++ [f]) else none) else some (d.Room, s.1)) (by omega)
    (fun n s i x hx hi => by
      obtain ⟨e1, e2, c1, c2⟩ := ixf (m := d.Files.length) hi (by omega)
      simp only
      rw [s_l14Put_L1.eq_2, ln_map, if_pos c1]
      simp only [c2, if_true, e2, hx, Option.bind_some, e1, List.length_map, List.length_append, List.length_cons, List.length_nil])
    (fun s x f g hfg => by simp only [hfg])
    (fun n s => by simp only; rw [s_l14Put_L1.eq_2, ln_map, if_neg (by omega)]; simp only [List.length_map, List.length_cons, List.length_nil]) ([], false)
  rw [hs]
  have k2 : ∀ (l : List MFile) (acc : List MFile), acc.length + 2 * l.length ≤ 1000000000 → goL (fun (s : List MFile × Bool) (x : MFile) k => if ¬ (s.2 = true) then (if f.Name ≤ x.Name then (if (List.length s.1 + 1) * 40 ≤ 140737488355328 then (if x.Name ≠ f.Name then (if (List.length s.1 + 2) * 40 ≤ 140737488355328 then k (s.1 ++ [f] ++ [x], true) else none) else k (s.1 ++ [f], true)) else none) else (if x.Name ≠ f.Name then (if (List.length s.1 + 1) * 40 ≤ 140737488355328 then k (s.1 ++ [x], s.2) else none) else k (s.1, s.2)))
      else (if x.Name ≠ f.Name then (if (List.length s.1 + 1) * 40 ≤ 140737488355328 then k (s.1 ++ [x], s.2) else none) else k (s.1, s.2)))
    (fun s => if ¬ (s.2 = true) then (if (List.length s.1 + 1) * 40 ≤ 140737488355328 then some (d.Room, s.1 ++ [f]) else none) else some (d.Room, s.1)) l (acc, true) = some (d.Room, acc ++ noN f.Name l) := by
    intro l
    induction l with
    | nil => intro acc _; simp [goL, noN]
    | cons x r ih =>
      intro acc hb
      rw [List.length_cons] at hb
      rw [goL]
      simp only [not_true_eq_false, if_false]
      by_cases hx : x.Name ≠ f.Name
      · rw [if_pos hx, if_pos (by omega), ih _ (by rw [List.length_append, List.length_singleton]; omega), noN, noN, List.filter_cons_of_pos (by simpa using hx), List.append_assoc]; rfl
      · rw [if_neg hx, ih _ (by omega), noN, noN, List.filter_cons_of_neg (by simpa using hx)]
  have k1 : ∀ (l : List MFile) (acc : List MFile), acc.length + 2 * l.length ≤ 1000000000 → goL (fun (s : List MFile × Bool) (x : MFile) k => if ¬ (s.2 = true) then (if f.Name ≤ x.Name then (if (List.length s.1 + 1) * 40 ≤ 140737488355328 then (if x.Name ≠ f.Name then (if (List.length s.1 + 2) * 40 ≤ 140737488355328 then k (s.1 ++ [f] ++ [x], true) else none) else k (s.1 ++ [f], true)) else none) else (if x.Name ≠ f.Name then (if (List.length s.1 + 1) * 40 ≤ 140737488355328 then k (s.1 ++ [x], s.2) else none) else k (s.1, s.2)))
      else (if x.Name ≠ f.Name then (if (List.length s.1 + 1) * 40 ≤ 140737488355328 then k (s.1 ++ [x], s.2) else none) else k (s.1, s.2)))
    (fun s => if ¬ (s.2 = true) then (if (List.length s.1 + 1) * 40 ≤ 140737488355328 then some (d.Room, s.1 ++ [f]) else none) else some (d.Room, s.1)) l (acc, false) = some (d.Room, acc ++ putR f l) := by
    intro l
    induction l with
    | nil => intro acc hb; simp only [List.length_nil] at hb; simp only [goL, putR]; rw [if_pos (by simp), if_pos (by omega)]
    | cons x r ih =>
      intro acc hb
      rw [List.length_cons] at hb
      rw [goL, putR]
      simp only [Bool.false_eq_true, not_false_eq_true, if_true]
      by_cases hle : f.Name ≤ x.Name
      · rw [if_pos hle, if_pos hle, if_pos (by omega)]
        by_cases hx : x.Name ≠ f.Name
        · rw [if_pos hx, if_pos (by omega), k2 _ _ (by simp only [List.length_append, List.length_singleton]; omega), List.filter_cons_of_pos (by simpa using hx)]
          simp [noN]
        · rw [if_neg hx, k2 _ _ (by simp only [List.length_append, List.length_singleton]; omega), List.filter_cons_of_neg (by simpa using hx)]
          simp [noN]
      · rw [if_neg hle, if_neg hle, if_pos (by omega), if_pos (by omega), ih _ (by rw [List.length_append, List.length_singleton]; omega)]
        simp
  rw [k1 _ _ (by simp only [List.length_nil]; omega), List.nil_append]

end Go.Proofs.YtbknlijpkabcnaaGreat.K

/- What disks' functions answer: the program's and the reference's are the same. No condition. -/
namespace Go.Proofs.YtbknlijpkabcnaaGreat.K
set_option linter.all false
open Go
open Classical

theorem g_IndexFunc_File_s1_eq (l : List MFile) (a : Int) (hl : l.length < 1000000000) : g_IndexFunc_File_s1 l a = some (fi (fun x => decide (x.Name = a)) l) := by
  unfold g_IndexFunc_File_s1
  refine idx_loop (l := l) (g_IndexFunc_File_s1_L1 l a _) (fun x => decide (x.Name = a)) hl (fun m i x hx hi => ?_) (fun m => ?_)
  · obtain ⟨e1, e2, c1, c2⟩ := ixf hi hl
    rw [g_IndexFunc_File_s1_L1.eq_2, ln_map, if_pos c1, if_pos c2, e2, hx, Option.bind_some, e1, i_Disk_drop_c1, Option.bind_some]
  · rw [g_IndexFunc_File_s1_L1.eq_2, ln_map, if_neg (by omega)]
theorem g_DeleteFunc_File_L1_eq (a : Int) (k : List MFile × Int → Option (List MFile)) (N : Nat) (hN : N < 1000000000) (hk : ∀ (v : List MFile) (p : Nat), v.length = N → p ≤ N → k (v, (p : Int)) = some (v.take p)) :
    ∀ n (v : List MFile) (p q : Nat), v.length = N → p ≤ q → q ≤ N → N - q < n → g_DeleteFunc_File_L1 a k n (v, (p : Int), (q : Int)) = some (v.take p ++ (v.drop q).filter (fun x => !decide (x.Name = a))) := by
  refine del_loop (K := id) (fun n v p q => g_DeleteFunc_File_L1 a k n (v, p, q)) (fun x => !decide (x.Name = a)) hN (fun n v p q x hv hx hpq hq => ?_) (fun n v p hv hp => ?_)
  · rw [g_DeleteFunc_File_L1.eq_2]
    have e1 : w64 ((p : Int) + 1) = (p : Int) + 1 := by rw [w64_id] <;> omega
    have e2 : w64 ((q : Int) + 1) = (q : Int) + 1 := by rw [w64_id] <;> omega
    have e3 : Int.toNat (p : Int) = p := by omega
    have e4 : Int.toNat (q : Int) = q := by omega
    have hp : v[p]? = some (v[p]'(by omega)) := List.getElem?_eq_getElem _
    have h1 : (q : Int) < (v.length : Int) := by omega
    have h2 : (p : Int) < (v.length : Int) := by omega
    have h3 : (0 : Int) ≤ q := by omega
    have h4 : (0 : Int) ≤ p := by omega
    simp only [ln_map, e1, e2, e3, e4, hx, hp, Option.bind_some, i_Disk_drop_c1, h1, h2, h3, h4, and_self, if_true]
    cases decide (x.Name = a) <;> rfl
  · rw [g_DeleteFunc_File_L1.eq_2]
    have h1 : ¬ ((N : Int) < (v.length : Int)) := by omega
    simp only [ln_map, h1, if_false]
    exact hk v p hv hp
theorem g_DeleteFunc_File_eq (l : List MFile) (a : Int) (hl : l.length < 1000000000) : g_DeleteFunc_File l a = some (l.filter fun x => !decide (x.Name = a)) := by
  unfold g_DeleteFunc_File
  rw [g_IndexFunc_File_s1_eq l a hl, Option.bind_some]
  by_cases hy : fi (fun x => decide (x.Name = a)) l = -1
  · rw [if_pos hy]
    congr 1; symm
    rw [List.filter_eq_self]
    intro x hx
    have := fi_neg hy x hx
    rw [this]; rfl
  · rw [if_neg hy]
    obtain ⟨j, hj, e, h1, h2⟩ := fi_pos hy
    rw [e]
    have e1 : w64 ((j : Int) + 1) = ((j + 1 : Nat) : Int) := by rw [w64_id] <;> omega
    rw [e1, g_DeleteFunc_File_L1_eq a _ l.length hl (fun v p hv hp => ?_) FUEL l j (j + 1) rfl (by omega) hj (FUEL_gt (by omega))]
    · have := take_filter (p := fun x => decide (x.Name = a)) hj h1 h2
      rw [this]
    · have h1 : (0 : Int) ≤ p := by omega
      have h2 : (p : Int) ≤ (v.length : Int) := by omega
      have h3 : Int.toNat (p : Int) = p := by omega
      have h4 : p + (v.length - p) ≤ v.length := by omega
      have h5 : (p : Int) ≤ ((List.take p v ++ List.replicate (v.length - p) (MFile.mk 0 [] []) ++ List.drop (p + (v.length - p)) v).length : Int) := by
        simp only [List.length_append, List.length_take, List.length_replicate, List.length_drop]; omega
      simp only [ln_map, List.length_map, h1, h2, h3, h4, h5, and_self, if_true]
      rw [del_tail v _ p (by omega)]
theorem g_Index_int_eq (l : List Int) (n : Int) (hl : l.length < 1000000000) : g_Index_int l n = some (fi (fun x => decide (n = x)) l) := by
  unfold g_Index_int
  refine idx_loop (l := l) (g_Index_int_L1 l n _) (fun x => decide (n = x)) hl (fun m i x hx hi => ?_) (fun m => ?_)
  · obtain ⟨e1, e2, c1, c2⟩ := ixf hi hl
    rw [g_Index_int_L1.eq_2, ln_map, if_pos c1, if_pos c2, e2, hx, Option.bind_some, e1]
    simp only [decide_eq_true_eq]
  · rw [g_Index_int_L1.eq_2, ln_map, if_neg (by omega)]
theorem g_Contains_int_eq (l : List Int) (n : Int) (hl : l.length < 1000000000) : g_Contains_int l n = some (decide (n ∈ l)) := by
  unfold g_Contains_int
  rw [g_Index_int_eq l n hl, Option.bind_some]
  congr 1
  rw [decide_eq_decide, fi_any]
  constructor
  · rintro ⟨x, hx, h⟩
    have : n = x := by simpa using h
    rw [this]; exact hx
  · intro h; exact ⟨n, h, by simp⟩
/-- A segment that is not kept. -/
noncomputable def segOut (a : List Int) (x : MFile) : Bool := decide ((0 ≤ x.Name ∧ x.Name ≤ 19) ∧ x.Name ∉ a)
theorem i_SegsClear_c1_eq (a : List Int) (x : MFile) (ha : a.length < 1000000000) : i_SegsClear_c1 x a = some (segOut a x) := by
  unfold i_SegsClear_c1 segOut
  rw [i_isSeg_eq, Option.bind_some]
  by_cases h : 0 ≤ x.Name ∧ x.Name ≤ 19
  · rw [decide_eq_true h, if_pos rfl, g_Contains_int_eq a _ ha, Option.bind_some]
    congr 1
    rw [decide_eq_decide]
    simp [h]
  · rw [decide_eq_false h, if_neg (by simp), decide_eq_false (fun k => h k.1)]

theorem g_IndexFunc_File_s2_eq (l : List MFile) (a : List Int) (ha : a.length < 1000000000) (hl : l.length < 1000000000) : g_IndexFunc_File_s2 l a = some (fi (fun x => segOut a x) l) := by
  unfold g_IndexFunc_File_s2
  refine idx_loop (l := l) (g_IndexFunc_File_s2_L1 l a _) (fun x => segOut a x) hl (fun m i x hx hi => ?_) (fun m => ?_)
  · obtain ⟨e1, e2, c1, c2⟩ := ixf hi hl
    rw [g_IndexFunc_File_s2_L1.eq_2, ln_map, if_pos c1, if_pos c2, e2, hx, Option.bind_some, e1, i_SegsClear_c1_eq a _ ha, Option.bind_some]
  · rw [g_IndexFunc_File_s2_L1.eq_2, ln_map, if_neg (by omega)]
theorem g_DeleteFunc_File_s1_L1_eq (a : List Int) (ha : a.length < 1000000000) (k : List MFile × Int → Option (List MFile)) (N : Nat) (hN : N < 1000000000) (hk : ∀ (v : List MFile) (p : Nat), v.length = N → p ≤ N → k (v, (p : Int)) = some (v.take p)) :
    ∀ n (v : List MFile) (p q : Nat), v.length = N → p ≤ q → q ≤ N → N - q < n → g_DeleteFunc_File_s1_L1 a k n (v, (p : Int), (q : Int)) = some (v.take p ++ (v.drop q).filter (fun x => !segOut a x)) := by
  refine del_loop (K := id) (fun n v p q => g_DeleteFunc_File_s1_L1 a k n (v, p, q)) (fun x => !segOut a x) hN (fun n v p q x hv hx hpq hq => ?_) (fun n v p hv hp => ?_)
  · rw [g_DeleteFunc_File_s1_L1.eq_2]
    have e1 : w64 ((p : Int) + 1) = (p : Int) + 1 := by rw [w64_id] <;> omega
    have e2 : w64 ((q : Int) + 1) = (q : Int) + 1 := by rw [w64_id] <;> omega
    have e3 : Int.toNat (p : Int) = p := by omega
    have e4 : Int.toNat (q : Int) = q := by omega
    have hp : v[p]? = some (v[p]'(by omega)) := List.getElem?_eq_getElem _
    have h1 : (q : Int) < (v.length : Int) := by omega
    have h2 : (p : Int) < (v.length : Int) := by omega
    have h3 : (0 : Int) ≤ q := by omega
    have h4 : (0 : Int) ≤ p := by omega
    simp only [ln_map, e1, e2, e3, e4, hx, hp, Option.bind_some, i_SegsClear_c1_eq a _ ha, h1, h2, h3, h4, and_self, if_true]
    cases segOut a x <;> rfl
  · rw [g_DeleteFunc_File_s1_L1.eq_2]
    have h1 : ¬ ((N : Int) < (v.length : Int)) := by omega
    simp only [ln_map, h1, if_false]
    exact hk v p hv hp
theorem g_DeleteFunc_File_s1_eq (l : List MFile) (a : List Int) (ha : a.length < 1000000000) (hl : l.length < 1000000000) : g_DeleteFunc_File_s1 l a = some (l.filter fun x => !segOut a x) := by
  unfold g_DeleteFunc_File_s1
  rw [g_IndexFunc_File_s2_eq l a ha hl, Option.bind_some]
  by_cases hy : fi (fun x => segOut a x) l = -1
  · rw [if_pos hy]
    congr 1; symm
    rw [List.filter_eq_self]
    intro x hx
    have := fi_neg hy x hx
    rw [this]; rfl
  · rw [if_neg hy]
    obtain ⟨j, hj, e, h1, h2⟩ := fi_pos hy
    rw [e]
    have e1 : w64 ((j : Int) + 1) = ((j + 1 : Nat) : Int) := by rw [w64_id] <;> omega
    rw [e1, g_DeleteFunc_File_s1_L1_eq a ha _ l.length hl (fun v p hv hp => ?_) FUEL l j (j + 1) rfl (by omega) hj (FUEL_gt (by omega))]
    · have := take_filter (p := fun x => segOut a x) hj h1 h2
      rw [this]
    · have h1 : (0 : Int) ≤ p := by omega
      have h2 : (p : Int) ≤ (v.length : Int) := by omega
      have h3 : Int.toNat (p : Int) = p := by omega
      have h4 : p + (v.length - p) ≤ v.length := by omega
      have h5 : (p : Int) ≤ ((List.take p v ++ List.replicate (v.length - p) (MFile.mk 0 [] []) ++ List.drop (p + (v.length - p)) v).length : Int) := by
        simp only [List.length_append, List.length_take, List.length_replicate, List.length_drop]; omega
      simp only [ln_map, List.length_map, h1, h2, h3, h4, h5, and_self, if_true]
      rw [del_tail v _ p (by omega)]

theorem drop_eq (q : Int) (l : List MFile) (n : Int) (hl : l.length < 100000000) : i_Disk_drop q l n = some (noN n l) := by
  unfold i_Disk_drop
  rw [g_DeleteFunc_File_eq l n (by omega), Option.bind_some]
  congr 2; funext x; simp

theorem clone_eq (d : MDisk) (hl : d.Files.length < 100000000) : i_cloneDisk d = some (d.Room, d.Files) := by
  unfold i_cloneDisk g_Clone_File
  rw [if_pos (by simp; omega), Option.bind_some]
theorem copy_eq (d : MDisk) (hl : d.Files.length < 100000000) : s_l14Copy d = some (d.Room, d.Files) := by
  unfold s_l14Copy
  rw [if_pos (by simp; omega), List.nil_append]

theorem less_eq (d : MDisk) (i : Nat) (hi : i < d.Files.length) (hl : d.Files.length < 100000000) : s_l14Less d (i : Int) = some (d.Room, d.Files.eraseIdx i) := by
  unfold s_l14Less
  have key : ∀ n (j : Nat) (acc : List MFile), j ≤ d.Files.length → d.Files.length - j < n → acc.length + (d.Files.length - j) ≤ 1000000000 →
      s_l14Less_L1 d (i : Int) (fun w15 => some (d.Room, w15)) n (acc, (j : Int)) = some (d.Room, acc ++ if j ≤ i then (d.Files.drop j).eraseIdx (i - j) else d.Files.drop j) := by
    intro n
    induction n with
    | zero => intro j acc _ h; omega
    | succ n ih =>
      intro j acc hj hn hb
      rw [s_l14Less_L1.eq_2, ln_map]
      rcases Nat.lt_or_ge j d.Files.length with h | h
      · obtain ⟨e1, e2, c1, c2⟩ := ixf (m := d.Files.length) h (by omega)
        have hx : d.Files[j]? = some d.Files[j] := List.getElem?_eq_getElem h
        have e3 : (j : Int) + 1 = ((j + 1 : Nat) : Int) := by omega
        rw [if_pos c1, List.drop_eq_getElem_cons h, e1, e3]
        by_cases hij : j = i
        · rw [if_neg (by omega), ih (j + 1) acc h (by omega) (by omega), if_neg (by omega), if_pos (by omega), show i - j = 0 by omega, List.eraseIdx_cons_zero]
        · rw [if_pos (by omega), if_pos c2, e2, hx, Option.bind_some, if_pos (by simp; omega), ih (j + 1) _ h (by omega) (by rw [List.length_append, List.length_singleton]; omega)]
          by_cases hlt : j ≤ i
          · rw [if_pos (by omega), if_pos hlt, show i - j = (i - (j + 1)) + 1 by omega, List.eraseIdx_cons_succ, List.append_assoc]; rfl
          · rw [if_neg (by omega), if_neg hlt, List.append_assoc]; rfl
      · rw [if_neg (by omega), List.drop_eq_nil_of_le h]
        split <;> simp
  have := key FUEL 0 [] (Nat.zero_le _) (FUEL_gt (by omega)) (by simp; omega)
  rw [if_pos (Nat.zero_le _), List.drop_zero, Nat.sub_zero, List.nil_append] at this
  exact this

theorem fAt_cases (d : MDisk) (n : Int) : (fAt d n = -1 ∧ ∀ x ∈ d.Files, x.Name ≠ n) ∨ ∃ (i : Nat) (x : MFile), fAt d n = i ∧ i < d.Files.length ∧ d.Files[i]? = some x ∧ x.Name = n := by
  by_cases h : fAt d n = -1
  · exact .inl ⟨h, fun x hx => by have := fi_neg h x hx; simpa using this⟩
  · obtain ⟨i, hi, e, h1, _⟩ := fi_pos (p := fun x : MFile => decide (x.Name = n)) (l := d.Files) h
    exact .inr ⟨i, d.Files[i], e, hi, List.getElem?_eq_getElem hi, by simpa using h1⟩

/-- What both answer, and that it is not too great. -/
def Both (a b : Option (Int × List MFile × Int)) : Prop := ∃ r, a = some r ∧ b = some r ∧ SMD ⟨r.1, r.2.1⟩
theorem SMD_nil0 : SMD ⟨0, []⟩ := by simp [SMD, tot]
theorem dsk_small {d : MDisk} (h : DskOk d) : d.Files.length ≤ 22 ∧ tot d.Files ≤ 60000 := ⟨fil_len h.1, by have := h.2; omega⟩

theorem append_eq (q : Int) (l : List MFile) (hs : SMD ⟨q, l⟩) (n : Int) (s : List UInt8) (hb : s.length < 10000000) : Both (s_DiskAppend ⟨q, l⟩ n s) (i_DiskAppend ⟨q, l⟩ n s) := by
  have m1 : maxLen = 9223372036854775807 := rfl
  unfold s_DiskAppend i_DiskAppend
  by_cases hd : DskOk ⟨q, l⟩
  · obtain ⟨d1, d2⟩ := dsk_small hd
    have hsm := hs.1
    have hr := hd.2
    have hd1 : decide (DskOk ⟨q, l⟩) = true := decide_eq_true hd
    simp only at d1 d2 hsm hr
    by_cases hn : 0 ≤ n ∧ n ≤ 21
    · have hn1 : decide (0 ≤ n ∧ n ≤ 21) = true := decide_eq_true hn
      have ql : ln s = (s.length : Int) := rfl
      have w1 : w64 (q - (tot l : Int)) = q - tot l := w64_id (by omega) (by omega)
      have w2 : w64 ((tot l : Int) + (s.length : Int)) = tot l + s.length := w64_id (by omega) (by omega)
      simp only [s_DiskOk_eq hs, i_DiskOk_eq hs, Option.bind_some, hd1, not_true_eq_false, if_false, s_l14Name_eq hs, i_isFile_eq hs, hn1, clone_eq _ hs.1, copy_eq _ hs.1, s_l14Size_eq hs, i_usedRoom_eq hs, s_l14Find_eq hs, i_fileAt_eq hs, ql, w1, w2]
      by_cases hroom : q < tot l + s.length
      · rw [if_pos (by omega), if_pos hroom]
        exact ⟨(q, l, 3), rfl, rfl, hs⟩
      · rw [if_neg (by omega), if_neg hroom]
        have hso := srt_of hd.1
        simp only at hso
        rcases fAt_cases ⟨q, l⟩ n with ⟨h1, h2⟩ | ⟨i, x, h1, h2, h3, h4⟩
        · simp only at h2
          obtain ⟨j, j1, j2, j3⟩ := ins_set n ⟨n, [], []⟩ ⟨n, [], s⟩ rfl rfl l h2
          have hlen := ins_len ⟨n, [], []⟩ l
          have htot := ins_tot ⟨n, [], []⟩ l
          have hs' : SMD ⟨q, insR ⟨n, [], []⟩ l⟩ := by
            refine ⟨?_, ?_⟩
            · show (insR ⟨n, [], []⟩ l).length < 100000000
              rw [hlen]; omega
            · show tot (insR ⟨n, [], []⟩ l) < 100000000
              rw [htot]; simp only [List.length_nil]; omega
          have hj : j < (insR ⟨n, [], []⟩ l).length := (List.getElem?_eq_some_iff.1 j2).1
          have hf : fAt ⟨q, insR ⟨n, [], []⟩ l⟩ n = (j : Int) := by unfold fAt fi; rw [j1]
          have c1 : ¬ (0 : Int) ≤ -1 := by omega
          have c2 : (-1 : Int) < 0 := by omega
          have c3 : (0 : Int) ≤ (j : Int) := by omega
          have c4 : (j : Int) < ((insR ⟨n, [], []⟩ l).length : Int) := by omega
          have c5 : ([] : List UInt8).length + s.length ≤ maxLen := by simp only [List.length_nil]; omega
          simp only [h1, c1, c2, if_false, if_true, c5, s_l14Put_eq _ _ hs.1, Option.bind_some, i_Disk_put_eq _ _ _ hs.1, i_fileAt_eq hs', hf, ln_map, c3, c4, and_self, Int.toNat_natCast, j2, List.nil_append, j3, putR_drop _ _ hso, noN_self h2]
          refine ⟨(q, insR ⟨n, [], s⟩ l, 0), rfl, rfl, ?_, ?_⟩
          · show (insR ⟨n, [], s⟩ l).length < 100000000
            rw [ins_len]; omega
          · show tot (insR ⟨n, [], s⟩ l) < 100000000
            rw [ins_tot]; simp only [List.length_nil]; omega
        · simp only at h2 h3
          have hxm := tot_mem (List.mem_of_getElem? h3)
          have c1 : (0 : Int) ≤ (i : Int) := by omega
          have c2 : ¬ (i : Int) < 0 := by omega
          have c4 : (i : Int) < (l.length : Int) := by omega
          have c5 : x.Late.length + s.length ≤ maxLen := by omega
          simp only [h1, c1, c2, if_false, if_true, Int.toNat_natCast, h3, Option.bind_some, c5, s_l14Put_eq _ _ hs.1, ln_map, c4, and_self, putR_set ⟨x.Name, x.Safe, x.Late ++ s⟩ x rfl l i hso h3]
          have := tot_set ⟨x.Name, x.Safe, x.Late ++ s⟩ l i x h3
          simp only [List.length_append] at this
          exact ⟨(q, l.set i ⟨x.Name, x.Safe, x.Late ++ s⟩, 0), rfl, rfl, by simp only [List.length_set]; exact hsm, by simp only; omega⟩
    · have hn1 : decide (0 ≤ n ∧ n ≤ 21) = false := decide_eq_false hn
      simp only [s_DiskOk_eq hs, i_DiskOk_eq hs, Option.bind_some, hd1, not_true_eq_false, if_false, s_l14Name_eq hs, i_isFile_eq hs, hn1, Bool.false_eq_true, not_false_eq_true, if_true]
      exact ⟨(0, [], 1), rfl, rfl, SMD_nil0⟩
  · have hd1 : decide (DskOk ⟨q, l⟩) = false := decide_eq_false hd
    simp only [s_DiskOk_eq hs, i_DiskOk_eq hs, Option.bind_some, hd1, Bool.false_eq_true, not_false_eq_true, if_true]
    exact ⟨(0, [], 1), rfl, rfl, SMD_nil0⟩

end Go.Proofs.YtbknlijpkabcnaaGreat.K

/- What disks' functions answer: syncing, moving, clearing. No condition. -/
namespace Go.Proofs.YtbknlijpkabcnaaGreat.K
set_option linter.all false
open Go
open Classical

theorem sync_eq (q : Int) (l : List MFile) (hs : SMD ⟨q, l⟩) (n : Int) : Both (s_DiskSync ⟨q, l⟩ n) (i_DiskSync ⟨q, l⟩ n) := by
  have m1 : maxLen = 9223372036854775807 := rfl
  unfold s_DiskSync i_DiskSync s_l14At
  by_cases hd : DskOk ⟨q, l⟩
  · obtain ⟨d1, d2⟩ := dsk_small hd
    have hsm := hs.1
    have hst := hs.2
    have hd1 : decide (DskOk ⟨q, l⟩) = true := decide_eq_true hd
    simp only at d1 d2 hsm hst
    by_cases hn : 0 ≤ n ∧ n ≤ 21
    · have hn1 : decide (0 ≤ n ∧ n ≤ 21) = true := decide_eq_true hn
      have hso := srt_of hd.1
      simp only at hso
      rcases fAt_cases ⟨q, l⟩ n with ⟨h1, h2⟩ | ⟨i, x, h1, h2, h3, h4⟩
      · have c2 : (-1 : Int) < 0 := by omega
        have c3 : (2 : Int) ≠ 0 := by omega
        have c4 : ¬ (2 : Int) = 1 := by omega
        simp only [s_DiskOk_eq hs, i_DiskOk_eq hs, Option.bind_some, hd1, not_true_eq_false, if_false, s_l14Name_eq hs, i_isFile_eq hs, hn1, clone_eq _ hs.1, s_l14Find_eq hs, i_fileAt_eq hs, h1, c2, if_true, ne_eq, c3, not_false_eq_true, s_l14Refused, c4, copy_eq _ hs.1]
        exact ⟨(q, l, 2), rfl, rfl, hs⟩
      · simp only at h2 h3
        have hxm := tot_mem (List.mem_of_getElem? h3)
        have c1 : (0 : Int) ≤ (i : Int) := by omega
        have c2 : ¬ (i : Int) < 0 := by omega
        have c4 : (i : Int) < (l.length : Int) := by omega
        have c5 : x.Safe.length + x.Late.length ≤ maxLen := by omega
        simp only [s_DiskOk_eq hs, i_DiskOk_eq hs, Option.bind_some, hd1, not_true_eq_false, if_false, s_l14Name_eq hs, i_isFile_eq hs, hn1, clone_eq _ hs.1, s_l14Find_eq hs, i_fileAt_eq hs, h1, c1, c2, if_true, ne_eq, Int.toNat_natCast, h3, c5, s_l14Put_eq _ _ hs.1, ln_map, c4, and_self,
          putR_set ⟨n, x.Safe ++ x.Late, []⟩ x h4 l i hso h3]
        have := tot_set ⟨n, x.Safe ++ x.Late, []⟩ l i x h3
        simp only [List.length_append, List.length_nil] at this
        exact ⟨(q, l.set i ⟨n, x.Safe ++ x.Late, []⟩, 0), rfl, rfl, by simp only [List.length_set]; exact hsm, by simp only; omega⟩
    · have hn1 : decide (0 ≤ n ∧ n ≤ 21) = false := decide_eq_false hn
      simp only [s_DiskOk_eq hs, i_DiskOk_eq hs, Option.bind_some, hd1, not_true_eq_false, if_false, s_l14Name_eq hs, i_isFile_eq hs, hn1, Bool.false_eq_true, not_false_eq_true, if_true, s_l14Refused]
      exact ⟨(0, [], 1), rfl, rfl, SMD_nil0⟩
  · have hd1 : decide (DskOk ⟨q, l⟩) = false := decide_eq_false hd
    simp only [s_DiskOk_eq hs, i_DiskOk_eq hs, Option.bind_some, hd1, Bool.false_eq_true, not_false_eq_true, if_true, s_l14Refused]
    exact ⟨(0, [], 1), rfl, rfl, SMD_nil0⟩

theorem noN_len (n : Int) (l : List MFile) : (noN n l).length ≤ l.length := List.length_filter_le ..
theorem srt_noN {n : Int} {l : List MFile} (h : srt l) : srt (noN n l) := h.filter _

theorem move_eq (q : Int) (l : List MFile) (hs : SMD ⟨q, l⟩) (n t : Int) (hne : n ≠ t) (ht : 0 ≤ t ∧ t ≤ 21) (hn : 0 ≤ n ∧ n ≤ 21) : Both (s_DiskMove ⟨q, l⟩ n t) (i_DiskMove ⟨q, l⟩ n t) := by
  unfold s_DiskMove i_DiskMove s_l14At
  have hn1 : decide (0 ≤ n ∧ n ≤ 21) = true := decide_eq_true hn
  have ht1 : decide (0 ≤ t ∧ t ≤ 21) = true := decide_eq_true ht
  by_cases hd : DskOk ⟨q, l⟩
  · obtain ⟨d1, d2⟩ := dsk_small hd
    have hsm := hs.1
    have hd1 : decide (DskOk ⟨q, l⟩) = true := decide_eq_true hd
    simp only at d1 d2 hsm
    have hso := srt_of hd.1
    simp only at hso
    rcases fAt_cases ⟨q, l⟩ n with ⟨h1, h2⟩ | ⟨i, x, h1, h2, h3, h4⟩
    · have c2 : (-1 : Int) < 0 := by omega
      have c3 : (2 : Int) ≠ 0 := by omega
      have c4 : ¬ (2 : Int) = 1 := by omega
      simp only [s_DiskOk_eq hs, i_DiskOk_eq hs, Option.bind_some, hd1, not_true_eq_false, if_false, s_l14Name_eq hs, i_isFile_eq hs, hn1, ht1, hne, clone_eq _ hs.1, s_l14Find_eq hs, i_fileAt_eq hs, h1, c2, if_true, ne_eq, c3, not_false_eq_true, s_l14Refused, c4, copy_eq _ hs.1]
      exact ⟨(q, l, 2), rfl, rfl, hs⟩
    · simp only at h2 h3
      have c1 : (0 : Int) ≤ (i : Int) := by omega
      have c2 : ¬ (i : Int) < 0 := by omega
      have l1 := noN_len n l
      have l2 := noN_len t (noN n l)
      have e1 := erase_drop x l i hso h3
      rw [h4] at e1
      have hl1 : (MDisk.mk q (noN n l)).Files.length < 100000000 := by simp only; omega
      simp only [s_DiskOk_eq hs, i_DiskOk_eq hs, Option.bind_some, hd1, not_true_eq_false, if_false, s_l14Name_eq hs, i_isFile_eq hs, hn1, ht1, hne, clone_eq _ hs.1, s_l14Find_eq hs, i_fileAt_eq hs, h1, c1, c2, if_true, ne_eq, Int.toNat_natCast, h3,
        less_eq ⟨q, l⟩ i h2 hs.1, e1, s_l14Put_eq ⟨q, noN n l⟩ _ hl1, drop_eq q l n hsm, drop_eq q (noN n l) t (by omega), i_Disk_put_eq q (noN t (noN n l)) _ (by omega), putR_drop _ _ (srt_noN hso)]
      refine ⟨(q, insR ⟨t, x.Safe, x.Late⟩ (noN t (noN n l)), 0), rfl, rfl, ?_, ?_⟩
      · show (insR _ _).length < 100000000
        rw [ins_len]; omega
      · show tot (insR _ _) < 100000000
        have t1 := tot_filter (fun y => decide (y.Name ≠ t)) (noN n l)
        have t2 := tot_filter (fun y => decide (y.Name ≠ n)) l
        have t3 := tot_mem (List.mem_of_getElem? h3)
        rw [ins_tot]
        unfold noN at t1 ⊢
        simp only
        omega
  · have hd1 : decide (DskOk ⟨q, l⟩) = false := decide_eq_false hd
    simp only [s_DiskOk_eq hs, i_DiskOk_eq hs, Option.bind_some, hd1, Bool.false_eq_true, not_false_eq_true, if_true, s_l14Refused, s_l14Name_eq hs, ht1, hne, not_true_eq_false, if_false, ne_eq]
    exact ⟨(0, [], 1), rfl, rfl, SMD_nil0⟩

/-- What clearing keeps. -/
noncomputable def clr (a : List Int) (l : List MFile) : List MFile := l.filter fun x => !segOut a x
theorem has_eq (a : List Int) (n : Int) (ha : a.length < 1000000000) : s_l4Has a n = some (decide (n ∈ a)) := by
  unfold s_l4Has
  have := find_loop (l := a) (s_l4Has_L1 a n (fun _ => some false)) (fun x => decide (x = n)) (fun _ => true) false ha (fun m i x hx hi => ?_) (fun m => ?_)
  · rw [this]
    congr 1
    by_cases h : n ∈ a
    · rw [decide_eq_true h]
      cases hf : a.find? (fun x => decide (x = n)) with
      | none => rw [List.find?_eq_none] at hf; exact absurd (by simp) (hf n h)
      | some y => rfl
    · rw [decide_eq_false h]
      have hf : a.find? (fun x => decide (x = n)) = none := List.find?_eq_none.2 fun x hx => by simp; rintro rfl; exact h hx
      rw [hf]; rfl
  · obtain ⟨e1, e2, c1, c2⟩ := ixf hi ha
    rw [s_l4Has_L1.eq_2, ln_map, if_pos c1, if_pos c2, e2, hx, Option.bind_some, e1]
    simp only [decide_eq_true_eq]
  · rw [s_l4Has_L1.eq_2, ln_map, if_neg (by omega)]

theorem clear_eq (q : Int) (l : List MFile) (hs : SMD ⟨q, l⟩) (a : List Int) (ha : a.length < 1000000000) : ∃ r, s_SegsClear ⟨q, l⟩ a = some r ∧ i_SegsClear ⟨q, l⟩ a = some r ∧ SMD ⟨r.1, r.2⟩ := by
  unfold s_SegsClear i_SegsClear
  by_cases hd : DskOk ⟨q, l⟩
  · obtain ⟨d1, d2⟩ := dsk_small hd
    have hsm := hs.1
    have hd1 : decide (DskOk ⟨q, l⟩) = true := decide_eq_true hd
    simp only at d1 d2 hsm
    by_cases hl : (20 : Int) < (a.length : Int)
    · simp only [s_DiskOk_eq hs, i_DiskOk_eq hs, Option.bind_some, hd1, not_true_eq_false, if_false, ln_map, hl, if_true]
      exact ⟨(0, []), rfl, rfl, SMD_nil0⟩
    · simp only [s_DiskOk_eq hs, i_DiskOk_eq hs, Option.bind_some, hd1, not_true_eq_false, if_false, ln_map, hl, clone_eq _ hs.1, g_DeleteFunc_File_s1_eq l a ha (by omega)]
      refine ⟨(q, clr a l), ?_, rfl, ?_, ?_⟩
      · have h := scan (l := l) (S := List MFile) (R := Int × List MFile) (fun n s j => s_SegsClear_L1 ⟨q, l⟩ a (fun w31 => some (q, w31)) n (s, j)) (fun s x k => if segOut a x = true then k s else if (s.length + 1) * 40 ≤ 140737488355328 then k (s ++ [x]) else none) (fun s => some (q, s)) (by omega)
          (fun n s i x hx hi => by
            obtain ⟨e1, e2, c1, c2⟩ := ixf (m := l.length) hi (by omega)
            simp only
            rw [s_SegsClear_L1.eq_2]
            simp only [ln_map, c1, c2, if_true, e2, hx, Option.bind_some, e1, s_isSeg, has_eq a _ ha, List.length_map, List.length_cons, List.length_nil, segOut]
            by_cases h1 : 0 ≤ x.Name ∧ x.Name ≤ 19
            · by_cases h2 : x.Name ∈ a
              · simp [h1, h2]
              · simp [h1, h2]
            · simp [h1])
          (fun s x f g hfg => by simp only [hfg]) (fun n s => by rw [s_SegsClear_L1.eq_2, ln_map, if_neg (by show ¬ ((l.length : Int) < (l.length : Int)); omega)]) []
        simp only at h
        rw [h]
        have key : ∀ (m acc : List MFile), acc.length + m.length ≤ 1000000000 → goL (fun (s : List MFile) (x : MFile) (k : List MFile → Option (Int × List MFile)) => if segOut a x = true then k s else if (s.length + 1) * 40 ≤ 140737488355328 then k (s ++ [x]) else none) (fun s => some (q, s)) m acc = some (q, acc ++ clr a m) := by
          intro m
          induction m with
          | nil => intro acc _; simp [goL, clr]
          | cons x r ih =>
            intro acc hb
            rw [List.length_cons] at hb
            rw [goL]
            by_cases hx : segOut a x = true
            · rw [if_pos hx, ih _ (by omega), clr, clr, List.filter_cons_of_neg (by simp [hx])]
            · rw [if_neg hx, if_pos (by omega), ih _ (by rw [List.length_append, List.length_singleton]; omega), clr, clr, List.filter_cons_of_pos (by simpa using hx), List.append_assoc]; rfl
        rw [key l [] (by simp only [List.length_nil]; omega), List.nil_append]
      · have := List.length_filter_le (fun x => !segOut a x) l
        show (clr a l).length < 100000000
        unfold clr; omega
      · have := tot_filter (fun x => !segOut a x) l
        show tot (clr a l) < 100000000
        unfold clr; omega
  · have hd1 : decide (DskOk ⟨q, l⟩) = false := decide_eq_false hd
    simp only [s_DiskOk_eq hs, i_DiskOk_eq hs, Option.bind_some, hd1, Bool.false_eq_true, not_false_eq_true, if_true]
    exact ⟨(0, []), rfl, rfl, SMD_nil0⟩

end Go.Proofs.YtbknlijpkabcnaaGreat.K

/- How the reference packs a save. No condition. -/
namespace Go.Proofs.YtbknlijpkabcnaaGreat.K
set_option linter.all false
open Go
open Classical

theorem byte_low2 (x : Nat) : byteOf (w64 (Int.tmod (x : Int) 128 + 128)) = UInt8.ofNat (x % 128 + 128) := by
  have e : Int.tmod (x : Int) 128 = ((x % 128 : Nat) : Int) := by rw [Int.tmod_eq_emod_of_nonneg (by omega)]; omega
  rw [e, w64_id (by omega) (by omega), show ((x % 128 : Nat) : Int) + 128 = ((x % 128 + 128 : Nat) : Int) by omega, byteOf_nat, Nat.mod_eq_of_lt (by omega)]
theorem s_PutNum_L1_eq (k : Int × List UInt8 → Option (List UInt8)) (hk : ∀ (x : Nat) (acc : List UInt8), x < 128 → acc.length ≤ 1000 → k ((x : Int), acc) = some (acc ++ [UInt8.ofNat x])) :
    ∀ (m n x : Nat) (acc : List UInt8), x < 128 ^ m → m < n → x < 9223372036854775808 → acc.length + m ≤ 1000 → s_PutNum_L1 k n ((x : Int), acc) = some (acc ++ enc x) := by
  intro m
  induction m with
  | zero =>
    intro n x acc h hn _ hacc
    have : x = 0 := by simpa using h
    subst this
    obtain ⟨n, rfl⟩ : ∃ k, n = k + 1 := ⟨n - 1, by omega⟩
    rw [s_PutNum_L1.eq_2, if_neg (by simp), hk 0 acc (by omega) (by omega), enc_lt (by omega)]
  | succ m ih =>
    intro n x acc h hn hx hacc
    obtain ⟨n, rfl⟩ : ∃ k, n = k + 1 := ⟨n - 1, by omega⟩
    rw [s_PutNum_L1.eq_2]
    by_cases h1 : x < 128
    · rw [if_neg (by omega), hk x acc h1 (by omega), enc_lt h1]
    · rw [Nat.pow_succ] at h
      have e : w64 (Int.tdiv (x : Int) 128) = ((x / 128 : Nat) : Int) := by rw [Int.tdiv_eq_ediv_of_nonneg (by omega), w64_id (by omega) (by omega)]; omega
      rw [if_pos (by omega), if_pos (by rw [List.length_map, List.length_map, List.length_singleton]; omega), byte_low2, e]
      rw [ih n (x / 128) _ (by omega) (by omega) (by omega) (by rw [List.length_append, List.length_singleton]; omega), enc_ge h1]
      simp
theorem s_PutNum_eq (n : Nat) (h : n < 9223372036854775808) : s_PutNum (n : Int) = some (enc n) := by
  unfold s_PutNum
  rw [if_neg (by omega), s_PutNum_L1_eq _ (fun x acc h1 h2 => ?_) 9 FUEL n [] (by simpa using h) (FUEL_gt (by omega)) h (by simp)]
  · simp
  · simp only [List.length_map, List.length_singleton]
    rw [if_pos (by omega), byteOf_nat, Nat.mod_eq_of_lt (by omega)]
theorem s_PutNums_eq (l : List Int) (h : ∀ n ∈ l, inR n) (hl : l.length < 1000000) : s_PutNums l = some (encs l) := by
  unfold s_PutNums
  rw [collect (l := l) (fun n s i => s_PutNums_L1 l (fun w19 => some w19) n (s, i)) (fun n => enc n.toNat) 9 1 (fun s => some s) (by omega) (fun n hn => enc_le9 (h n hn)) (by omega)
    (fun n s i x hx hi => ?_) (fun n s => ?_) [] (by simp; omega)]
  · simp [encs]
  · obtain ⟨e1, e2, c1, c2⟩ := ixf hi (by omega)
    have hxr := h x (List.mem_of_getElem? hx)
    rw [s_PutNums_L1.eq_2, ln_map, if_pos c1, if_pos c2, e2, hx, Option.bind_some, if_neg (by have := hxr.1; omega)]
    have : x = (x.toNat : Int) := by have := hxr.1; omega
    have hp := s_PutNum_eq x.toNat (by have := hxr.2; omega)
    rw [← this] at hp
    rw [hp, Option.bind_some, e1]
    simp only [List.length_map]
  · rw [s_PutNums_L1.eq_2, ln_map, if_neg (by omega)]

section
variable {b : MBooks} (k : List Int → Option (List Int))
theorem sk1 (hs : SMB b) (s : List Int) (h : s.length ≤ 1000000) : s_l13Nums_L1 b k FUEL (s, 0) = k (s ++ b.Accounts.flatMap nAcc) := by
  have a := hs.1
  refine collect (l := b.Accounts) (fun n s i => s_l13Nums_L1 b k n (s, i)) nAcc 2 8 k a (fun _ _ => Nat.le_refl _) (by omega) (fun n s i x hx hi => ?_) (fun n s => ?_) s (by omega)
  · obtain ⟨e1, e2, c1, c2⟩ := ixf hi a
    rw [s_l13Nums_L1.eq_2, ln_map, if_pos c1, if_pos c2, e2, hx, Option.bind_some, e1]; simp only [List.length_map]; rfl
  · rw [s_l13Nums_L1.eq_2, ln_map, if_neg (by omega)]
theorem sk2 (hs : SMB b) (s : List Int) (h : s.length ≤ 10000000000) : s_l13Nums_L2 b k FUEL (s, 0) = k (s ++ b.Instrs.flatMap nIns) := by
  have a := hs.2.1
  refine collect (l := b.Instrs) (fun n s i => s_l13Nums_L2 b k n (s, i)) nIns 2 8 k a (fun _ _ => Nat.le_refl _) (by omega) (fun n s i x hx hi => ?_) (fun n s => ?_) s (by omega)
  · obtain ⟨e1, e2, c1, c2⟩ := ixf hi a
    rw [s_l13Nums_L2.eq_2, ln_map, if_pos c1, if_pos c2, e2, hx, Option.bind_some, e1]; simp only [List.length_map]; rfl
  · rw [s_l13Nums_L2.eq_2, ln_map, if_neg (by omega)]
theorem sk3 (hs : SMB b) (s : List Int) (h : s.length ≤ 10000000000) : s_l13Nums_L3 b k FUEL (s, 0) = k (s ++ b.Bals.flatMap nBal) := by
  have a := hs.2.2.1
  refine collect (l := b.Bals) (fun n s i => s_l13Nums_L3 b k n (s, i)) nBal 3 8 k a (fun _ _ => Nat.le_refl _) (by omega) (fun n s i x hx hi => ?_) (fun n s => ?_) s (by omega)
  · obtain ⟨e1, e2, c1, c2⟩ := ixf hi a
    rw [s_l13Nums_L3.eq_2, ln_map, if_pos c1, if_pos c2, e2, hx, Option.bind_some, e1]; simp only [List.length_map]; rfl
  · rw [s_l13Nums_L3.eq_2, ln_map, if_neg (by omega)]
theorem sk4 (hs : SMB b) (s : List Int) (h : s.length ≤ 10000000000) : s_l13Nums_L4 b k FUEL (s, 0) = k (s ++ b.Lots.flatMap nLot) := by
  have a := hs.2.2.2.1
  refine collect (l := b.Lots) (fun n s i => s_l13Nums_L4 b k n (s, i)) nLot 5 8 k a (fun _ _ => Nat.le_refl _) (by omega) (fun n s i x hx hi => ?_) (fun n s => ?_) s (by omega)
  · obtain ⟨e1, e2, c1, c2⟩ := ixf hi a
    rw [s_l13Nums_L4.eq_2, ln_map, if_pos c1, if_pos c2, e2, hx, Option.bind_some, e1]; simp only [List.length_map]; rfl
  · rw [s_l13Nums_L4.eq_2, ln_map, if_neg (by omega)]
theorem sk5 (hs : SMB b) (s : List Int) (h : s.length ≤ 10000000000) : s_l13Nums_L5 b k FUEL (s, 0) = k (s ++ b.Trades.flatMap nTra) := by
  have a := hs.2.2.2.2
  refine collect (l := b.Trades) (fun n s i => s_l13Nums_L5 b k n (s, i)) nTra 8 8 k a (fun _ _ => Nat.le_refl _) (by omega) (fun n s i x hx hi => ?_) (fun n s => ?_) s (by omega)
  · obtain ⟨e1, e2, c1, c2⟩ := ixf hi a
    rw [s_l13Nums_L5.eq_2, ln_map, if_pos c1, if_pos c2, e2, hx, Option.bind_some, e1]; simp only [List.length_map]; rfl
  · rw [s_l13Nums_L5.eq_2, ln_map, if_neg (by omega)]
end

theorem s_l13Nums_eq {b : MBooks} (hs : SMB b) (h : BkOk b) : s_l13Nums b = some (nums b) := by
  unfold s_l13Nums
  have a1 := h.1.2; have a2 := h.2.1.2; have a3 := h.2.2.1.2; have a4 := h.2.2.2.1.2.1; have a5 := h.2.2.2.2.1.2
  have l1 := flat_len nAcc 2 b.Accounts (fun _ => rfl)
  have l2 := flat_len nIns 2 b.Instrs (fun _ => rfl)
  have l3 := flat_len nBal 3 b.Bals (fun _ => rfl)
  have l4 := flat_len nLot 5 b.Lots (fun _ => rfl)
  have l5 := flat_len nTra 8 b.Trades (fun _ => rfl)
  rw [sk1 _ hs _ (by simp)]
  simp only [ln_map, List.length_map, List.length_append, List.length_singleton, l1]
  rw [if_pos (by omega), sk2 _ hs _ (by simp only [List.length_append, List.length_singleton, l1]; omega)]
  simp only [List.length_map, List.length_append, List.length_singleton, l1, l2]
  rw [if_pos (by omega), sk3 _ hs _ (by simp only [List.length_append, List.length_singleton, l1, l2]; omega)]
  simp only [List.length_map, List.length_append, List.length_singleton, l1, l2, l3]
  rw [if_pos (by omega), sk4 _ hs _ (by simp only [List.length_append, List.length_singleton, l1, l2, l3]; omega)]
  simp only [List.length_map, List.length_append, List.length_singleton, l1, l2, l3, l4]
  rw [if_pos (by omega), sk5 _ hs _ (by simp only [List.length_append, List.length_singleton, l1, l2, l3, l4]; omega)]
  simp only [List.length_map, List.length_append, List.length_singleton, l1, l2, l3, l4, l5]
  rw [if_pos (by omega)]
  rfl
theorem s_BooksPack_eq {b : MBooks} (hs : SMB b) : s_BooksPack b = some (if BkOk b then (encs (nums b), true) else ([], false)) := by
  unfold s_BooksPack
  rw [s_BooksOk_eq hs, Option.bind_some]
  by_cases h : BkOk b
  · obtain ⟨n1, n2⟩ := nums_ok h
    rw [if_pos h, decide_eq_true h, if_neg (by simp), s_l13Nums_eq hs h, Option.bind_some, s_PutNums_eq _ n1 (by omega), Option.bind_some]
  · rw [if_neg h, decide_eq_false h, if_pos (by simp)]
theorem s_Seal_eq (b : List UInt8) (hl : b.length < 1000000000) : s_Seal b = some (if 9000 < b.length then ([], false) else (sealB b, true)) := by
  unfold s_Seal
  rw [ln_map]
  by_cases h : 9000 < b.length
  · rw [if_pos (by omega), if_pos h]
  · rw [if_neg (by omega), if_neg h, s_Check_eq b hl, Option.bind_some, s_PutNum_eq b.length (by omega), Option.bind_some]
    have he : (enc b.length).length ≤ 9 := by
      have := enc_len 9 b.length (by have := (show 128 ^ 9 = 9223372036854775808 by decide); omega)
      omega
    rw [if_pos (by simp only [List.length_map]; omega), if_pos (by simp only [List.length_map, List.length_append, List.length_cons, List.length_nil]; omega)]
    have f1 : (2 : Int) ^ (Int.toNat 8) = ((256 : Nat) : Int) := rfl
    have f2 : (2 : Int) ^ (Int.toNat 16) = ((65536 : Nat) : Int) := rfl
    have f3 : (2 : Int) ^ (Int.toNat 24) = ((16777216 : Nat) : Int) := rfl
    rw [f1, f2, f3, fdiv_nat, fdiv_nat, fdiv_nat, byteOf_nat, byteOf_nat, byteOf_nat, byteOf_nat]
    rfl
theorem s_SavePack_eq {s : MSave} (hs : SMB s.Books) : s_SavePack s = i_SavePack s := by
  rw [i_SavePack_eq hs]
  unfold s_SavePack
  rw [s_BooksPack_eq hs, Option.bind_some]
  by_cases h : BkOk s.Books
  · by_cases hf : 0 ≤ s.From ∧ s.From ≤ 19
    · have hl := savB_len hf h
      have : s.From = (s.From.toNat : Int) := by omega
      have hp := s_PutNum_eq s.From.toNat (by omega)
      rw [← this] at hp
      have hsv : savB s.From s.Books = enc s.From.toNat ++ encs (nums s.Books) := rfl
      rw [hsv, List.length_append] at hl
      have c1 : BkOk s.Books ∧ 0 ≤ s.From ∧ s.From ≤ 19 := ⟨h, hf⟩
      have c2 : ((enc s.From.toNat).length + (encs (nums s.Books)).length) * 1 ≤ 140737488355328 := by omega
      have hse := s_Seal_eq (enc s.From.toNat ++ encs (nums s.Books)) (by rw [List.length_append]; omega)
      simp only [if_pos c1, if_pos h, not_true_eq_false, if_false, s_isSeg, Option.bind_some, decide_eq_true hf, hp, List.length_map, if_pos c2, hse, hsv]
      split
      · simp
      · simp
    · have c1 : ¬ (BkOk s.Books ∧ 0 ≤ s.From ∧ s.From ≤ 19) := fun k => hf k.2
      simp only [if_neg c1, if_pos h, not_true_eq_false, if_false, s_isSeg, Option.bind_some, decide_eq_false hf, Bool.false_eq_true, not_false_eq_true, if_true]
  · have c1 : ¬ (BkOk s.Books ∧ 0 ≤ s.From ∧ s.From ≤ 19) := fun k => h k.1
    simp only [if_neg c1, if_neg h, Bool.false_eq_true, not_false_eq_true, if_true]

end Go.Proofs.YtbknlijpkabcnaaGreat.K

/- SaveStep: the program and the reference answer the same. No condition. -/
namespace Go.Proofs.YtbknlijpkabcnaaGreat.K
set_option linter.all false
open Go
open Classical

theorem pack_some {s : MSave} (hs : SMB s.Books) : ∃ t ok, i_SavePack s = some (t, ok) ∧ t.length < 10000000 := by
  rw [i_SavePack_eq hs]
  by_cases h : BkOk s.Books ∧ (0 ≤ s.From ∧ s.From ≤ 19)
  · rw [if_pos h]
    by_cases h2 : 9000 < (savB s.From s.Books).length
    · rw [if_pos h2]; exact ⟨_, _, rfl, by simp⟩
    · rw [if_neg h2]
      refine ⟨_, _, rfl, ?_⟩
      have he : (enc (savB s.From s.Books).length).length ≤ 9 := by
        have := enc_len 9 (savB s.From s.Books).length (by have := (show 128 ^ 9 = 9223372036854775808 by decide); omega)
        omega
      unfold sealB
      rw [List.length_append, List.length_append]
      simp only [le4, List.length_cons, List.length_nil]
      omega
  · rw [if_neg h]; exact ⟨_, _, rfl, by simp⟩

theorem step_eq (q : Int) (l : List MFile) (hs : SMD ⟨q, l⟩) (s : MSave) (hb : SMB s.Books) (k : Int) : Both (s_SaveStep ⟨q, l⟩ s k) (i_SaveStep ⟨q, l⟩ s k) := by
  obtain ⟨t, ok, hp, ht⟩ := pack_some hb
  have hsp := (s_SavePack_eq hb).trans hp
  unfold s_SaveStep i_SaveStep
  by_cases hd : DskOk ⟨q, l⟩
  · obtain ⟨d1, d2⟩ := dsk_small hd
    have hsm := hs.1
    have hst := hs.2
    have hd1 : decide (DskOk ⟨q, l⟩) = true := decide_eq_true hd
    have hso := srt_of hd.1
    simp only at d1 d2 hsm hst hso
    by_cases hk : 0 ≤ k ∧ k ≤ 3
    · have hk1 : decide (0 ≤ k ∧ k ≤ 3) = true := decide_eq_true hk
      cases ok with
      | false =>
        simp only [hp, hsp, Option.bind_some, s_DiskOk_eq hs, i_DiskOk_eq hs, hd1, not_true_eq_false, if_false, Bool.false_eq_true, not_false_eq_true, if_true, i_in_eq, hk1]
        exact ⟨(0, [], 1), rfl, rfl, SMD_nil0⟩
      | true =>
        by_cases k0 : k = 0
        · have hk0 : decide ((0 : Int) ≤ 0 ∧ (0 : Int) ≤ 3) = true := decide_eq_true (by omega)
          have dr := drop_eq q l 20 hsm
          have hs2 : SMD ⟨q, noN 20 l⟩ := by
            have a1 := noN_len 20 l
            have a2 := tot_filter (fun y => decide (y.Name ≠ 20)) l
            exact ⟨by show (noN 20 l).length < _; omega, by show tot (noN 20 l) < _; unfold noN; omega⟩
          obtain ⟨r, r1, r2, r3⟩ := append_eq q (noN 20 l) hs2 20 t ht
          have common : s_SaveStep ⟨q, l⟩ s k = (Option.bind (s_DiskAppend ⟨q, noN 20 l⟩ 20 t) fun y16 => (if y16.2.2 ≠ (0 : Int) then (Option.bind (s_l14Copy ⟨q, l⟩) fun y19 => some (y19.1, y19.2, y16.2.2)) else some (y16.1, y16.2.1, y16.2.2))) := by
            unfold s_SaveStep
            simp only [hsp, Option.bind_some, s_DiskOk_eq hs, hd1, not_true_eq_false, if_false, s_l1In_eq, hk0, k0, if_true, s_l14Find_eq hs]
            rcases fAt_cases ⟨q, l⟩ 20 with ⟨h1, h2⟩ | ⟨i, x, h1, h2, h3, h4⟩
            · have c : ¬ (0 : Int) ≤ -1 := by omega
              simp only [h1, c, if_false]
              rw [noN_self h2]
            · simp only at h2 h3
              have e1 := erase_drop x l i hso h3
              rw [h4] at e1
              have c : (0 : Int) ≤ (i : Int) := by omega
              simp only [h1, c, if_true, less_eq ⟨q, l⟩ i h2 hs.1, Option.bind_some, e1]
          unfold s_SaveStep at common
          rw [common]
          simp only [hp, Option.bind_some, i_DiskOk_eq hs, hd1, not_true_eq_false, if_false, i_in_eq, hk0, k0, if_true, clone_eq _ hs.1, copy_eq _ hs.1, dr, r1, r2]
          by_cases c : r.2.2 ≠ 0
          · rw [if_pos c, if_pos c]
            exact ⟨(q, l, r.2.2), rfl, rfl, hs⟩
          · rw [if_neg c, if_neg c]
            have c' : r.2.2 = 0 := by omega
            exact ⟨(r.1, r.2.1, 0), by rw [c'], rfl, r3⟩
        · by_cases k1 : k = 1
          · obtain ⟨r, r1, r2, r3⟩ := sync_eq q l hs 20
            simp only [hp, hsp, Option.bind_some, s_DiskOk_eq hs, i_DiskOk_eq hs, hd1, not_true_eq_false, if_false, i_in_eq, s_l1In_eq, hk1, k0, k1, if_true, r1, r2]
            exact ⟨r, rfl, rfl, r3⟩
          · by_cases k2 : k = 2
            · obtain ⟨r, r1, r2, r3⟩ := move_eq q l hs 20 21 (by omega) (by omega) (by omega)
              simp only [hp, hsp, Option.bind_some, s_DiskOk_eq hs, i_DiskOk_eq hs, hd1, not_true_eq_false, if_false, i_in_eq, s_l1In_eq, hk1, k0, k1, k2, if_true, r1, r2]
              exact ⟨r, rfl, rfl, r3⟩
            · obtain ⟨r, r1, r2, r3⟩ := clear_eq q l hs [] (by simp)
              simp only [hp, hsp, Option.bind_some, s_DiskOk_eq hs, i_DiskOk_eq hs, hd1, not_true_eq_false, if_false, i_in_eq, s_l1In_eq, hk1, k0, k1, k2, if_true, r1, r2]
              exact ⟨(r.1, r.2, 0), rfl, rfl, r3⟩
    · have hk1 : decide (0 ≤ k ∧ k ≤ 3) = false := decide_eq_false hk
      cases ok <;> simp only [hp, hsp, Option.bind_some, s_DiskOk_eq hs, i_DiskOk_eq hs, hd1, not_true_eq_false, if_false, Bool.false_eq_true, not_false_eq_true, if_true, i_in_eq, s_l1In_eq, hk1] <;> exact ⟨(0, [], 1), rfl, rfl, SMD_nil0⟩
  · have hd1 : decide (DskOk ⟨q, l⟩) = false := decide_eq_false hd
    simp only [hp, hsp, s_DiskOk_eq hs, i_DiskOk_eq hs, Option.bind_some, hd1, Bool.false_eq_true, not_false_eq_true, if_true]
    exact ⟨(0, [], 1), rfl, rfl, SMD_nil0⟩

end Go.Proofs.YtbknlijpkabcnaaGreat.K

/- Saves copied and measured; SaveStep's and SaveWrite's laws. No condition. -/
namespace Go.Proofs.YtbknlijpkabcnaaGreat.K
set_option linter.all false
open Go
open Classical

theorem l_toAccountS_eq (a : List MAccount) (h : a.length < 1000000000) : l_toAccountS a = some a := by
  unfold l_toAccountS
  simp only [ln_map]
  rw [if_pos (by omega)]
  refine copy_loop (a := a) (fun n v i => l_toAccountS_L1 a _ n (v, i)) some h (fun n v i x hv hi hx => ?_) (fun n v hv => ?_) _ (by simp)
  · obtain ⟨e1, e2, c1, c2⟩ := ixf hi h
    have c1' : (i : Int) < (v.length : Int) := by omega
    have hy : v[i]? = some (v[i]'(by omega)) := List.getElem?_eq_getElem _
    rw [l_toAccountS_L1.eq_2]
    simp only [ln_map, c1, c1', c2, and_self, if_true, e2, hx, hy, Option.bind_some, l_toAccount, e1]
  · rw [l_toAccountS_L1.eq_2, ln_map, if_neg (by omega)]
theorem l_szAccountS_eq (l : List MAccount) (a : Int) (hl : l.length ≤ maxLen) (ha : 0 ≤ a) (hb : a ≤ 1048576) : ∃ y, l_szAccountS l a = some y ∧ (y < 0 ∨ (y ≤ 1048576 ∧ l.length < 1000000000)) := by
  have m : maxLen = 9223372036854775807 := rfl
  unfold l_szAccountS
  simp only [ln_map]
  have e1 : w64 (a - (l.length : Int)) = a - l.length := w64_id (by omega) (by omega)
  rw [e1]
  split
  · exact ⟨-1, rfl, .inl (by omega)⟩
  · exact ⟨_, rfl, .inr ⟨by omega, by omega⟩⟩
theorem l_toInstrS_eq (a : List MInstr) (h : a.length < 1000000000) : l_toInstrS a = some a := by
  unfold l_toInstrS
  simp only [ln_map]
  rw [if_pos (by omega)]
  refine copy_loop (a := a) (fun n v i => l_toInstrS_L1 a _ n (v, i)) some h (fun n v i x hv hi hx => ?_) (fun n v hv => ?_) _ (by simp)
  · obtain ⟨e1, e2, c1, c2⟩ := ixf hi h
    have c1' : (i : Int) < (v.length : Int) := by omega
    have hy : v[i]? = some (v[i]'(by omega)) := List.getElem?_eq_getElem _
    rw [l_toInstrS_L1.eq_2]
    simp only [ln_map, c1, c1', c2, and_self, if_true, e2, hx, hy, Option.bind_some, l_toInstr, e1]
  · rw [l_toInstrS_L1.eq_2, ln_map, if_neg (by omega)]
theorem l_szInstrS_eq (l : List MInstr) (a : Int) (hl : l.length ≤ maxLen) (ha : 0 ≤ a) (hb : a ≤ 1048576) : ∃ y, l_szInstrS l a = some y ∧ (y < 0 ∨ (y ≤ 1048576 ∧ l.length < 1000000000)) := by
  have m : maxLen = 9223372036854775807 := rfl
  unfold l_szInstrS
  simp only [ln_map]
  have e1 : w64 (a - (l.length : Int)) = a - l.length := w64_id (by omega) (by omega)
  rw [e1]
  split
  · exact ⟨-1, rfl, .inl (by omega)⟩
  · exact ⟨_, rfl, .inr ⟨by omega, by omega⟩⟩
theorem l_toBalS_eq (a : List MBal) (h : a.length < 1000000000) : l_toBalS a = some a := by
  unfold l_toBalS
  simp only [ln_map]
  rw [if_pos (by omega)]
  refine copy_loop (a := a) (fun n v i => l_toBalS_L1 a _ n (v, i)) some h (fun n v i x hv hi hx => ?_) (fun n v hv => ?_) _ (by simp)
  · obtain ⟨e1, e2, c1, c2⟩ := ixf hi h
    have c1' : (i : Int) < (v.length : Int) := by omega
    have hy : v[i]? = some (v[i]'(by omega)) := List.getElem?_eq_getElem _
    rw [l_toBalS_L1.eq_2]
    simp only [ln_map, c1, c1', c2, and_self, if_true, e2, hx, hy, Option.bind_some, l_toBal, e1]
  · rw [l_toBalS_L1.eq_2, ln_map, if_neg (by omega)]
theorem l_szBalS_eq (l : List MBal) (a : Int) (hl : l.length ≤ maxLen) (ha : 0 ≤ a) (hb : a ≤ 1048576) : ∃ y, l_szBalS l a = some y ∧ (y < 0 ∨ (y ≤ 1048576 ∧ l.length < 1000000000)) := by
  have m : maxLen = 9223372036854775807 := rfl
  unfold l_szBalS
  simp only [ln_map]
  have e1 : w64 (a - (l.length : Int)) = a - l.length := w64_id (by omega) (by omega)
  rw [e1]
  split
  · exact ⟨-1, rfl, .inl (by omega)⟩
  · exact ⟨_, rfl, .inr ⟨by omega, by omega⟩⟩
theorem l_toLotS_eq (a : List MLot) (h : a.length < 1000000000) : l_toLotS a = some a := by
  unfold l_toLotS
  simp only [ln_map]
  rw [if_pos (by omega)]
  refine copy_loop (a := a) (fun n v i => l_toLotS_L1 a _ n (v, i)) some h (fun n v i x hv hi hx => ?_) (fun n v hv => ?_) _ (by simp)
  · obtain ⟨e1, e2, c1, c2⟩ := ixf hi h
    have c1' : (i : Int) < (v.length : Int) := by omega
    have hy : v[i]? = some (v[i]'(by omega)) := List.getElem?_eq_getElem _
    rw [l_toLotS_L1.eq_2]
    simp only [ln_map, c1, c1', c2, and_self, if_true, e2, hx, hy, Option.bind_some, l_toLot, e1]
  · rw [l_toLotS_L1.eq_2, ln_map, if_neg (by omega)]
theorem l_szLotS_eq (l : List MLot) (a : Int) (hl : l.length ≤ maxLen) (ha : 0 ≤ a) (hb : a ≤ 1048576) : ∃ y, l_szLotS l a = some y ∧ (y < 0 ∨ (y ≤ 1048576 ∧ l.length < 1000000000)) := by
  have m : maxLen = 9223372036854775807 := rfl
  unfold l_szLotS
  simp only [ln_map]
  have e1 : w64 (a - (l.length : Int)) = a - l.length := w64_id (by omega) (by omega)
  rw [e1]
  split
  · exact ⟨-1, rfl, .inl (by omega)⟩
  · exact ⟨_, rfl, .inr ⟨by omega, by omega⟩⟩
theorem l_toTradeS_eq (a : List MTrade) (h : a.length < 1000000000) : l_toTradeS a = some a := by
  unfold l_toTradeS
  simp only [ln_map]
  rw [if_pos (by omega)]
  refine copy_loop (a := a) (fun n v i => l_toTradeS_L1 a _ n (v, i)) some h (fun n v i x hv hi hx => ?_) (fun n v hv => ?_) _ (by simp)
  · obtain ⟨e1, e2, c1, c2⟩ := ixf hi h
    have c1' : (i : Int) < (v.length : Int) := by omega
    have hy : v[i]? = some (v[i]'(by omega)) := List.getElem?_eq_getElem _
    rw [l_toTradeS_L1.eq_2]
    simp only [ln_map, c1, c1', c2, and_self, if_true, e2, hx, hy, Option.bind_some, l_toTrade, e1]
  · rw [l_toTradeS_L1.eq_2, ln_map, if_neg (by omega)]
theorem l_szTradeS_eq (l : List MTrade) (a : Int) (hl : l.length ≤ maxLen) (ha : 0 ≤ a) (hb : a ≤ 1048576) : ∃ y, l_szTradeS l a = some y ∧ (y < 0 ∨ (y ≤ 1048576 ∧ l.length < 1000000000)) := by
  have m : maxLen = 9223372036854775807 := rfl
  unfold l_szTradeS
  simp only [ln_map]
  have e1 : w64 (a - (l.length : Int)) = a - l.length := w64_id (by omega) (by omega)
  rw [e1]
  split
  · exact ⟨-1, rfl, .inl (by omega)⟩
  · exact ⟨_, rfl, .inr ⟨by omega, by omega⟩⟩

theorem l_toSave_eq (s : MSave) (h : SMB s.Books) : l_toSave s = some (s.From, s.Books.Accounts, s.Books.Instrs, s.Books.Bals, s.Books.Lots, s.Books.Trades, s.Books.Lot) := by
  obtain ⟨h1, h2, h3, h4, h5⟩ := h
  unfold l_toSave l_toBooks
  simp only [l_toAccountS_eq _ h1, l_toInstrS_eq _ h2, l_toBalS_eq _ h3, l_toLotS_eq _ h4, l_toTradeS_eq _ h5, Option.bind_some]

theorem l_szSave_eq (s : MSave) (a : Int) (h1 : s.Books.Accounts.length ≤ maxLen) (h2 : s.Books.Instrs.length ≤ maxLen) (h3 : s.Books.Bals.length ≤ maxLen) (h4 : s.Books.Lots.length ≤ maxLen) (h5 : s.Books.Trades.length ≤ maxLen) (ha : 0 ≤ a) (hb : a ≤ 1048576) :
    ∃ y, l_szSave s a = some y ∧ (y < 0 ∨ SMB s.Books) := by
  unfold l_szSave l_szBooks
  obtain ⟨y1, e1, c1⟩ := l_szAccountS_eq s.Books.Accounts a h1 ha hb
  rw [e1, Option.bind_some]
  by_cases n1 : y1 < 0
  · exact ⟨-1, by rw [if_pos n1, Option.bind_some, if_pos (by omega)], .inl (by omega)⟩
  obtain ⟨b1, l1⟩ := c1.resolve_left n1
  obtain ⟨y2, e2, c2⟩ := l_szInstrS_eq s.Books.Instrs y1 h2 (by omega) b1
  rw [if_neg n1, e2, Option.bind_some]
  by_cases n2 : y2 < 0
  · exact ⟨-1, by rw [if_pos n2, Option.bind_some, if_pos (by omega)], .inl (by omega)⟩
  obtain ⟨b2, l2⟩ := c2.resolve_left n2
  obtain ⟨y3, e3, c3⟩ := l_szBalS_eq s.Books.Bals y2 h3 (by omega) b2
  rw [if_neg n2, e3, Option.bind_some]
  by_cases n3 : y3 < 0
  · exact ⟨-1, by rw [if_pos n3, Option.bind_some, if_pos (by omega)], .inl (by omega)⟩
  obtain ⟨b3, l3⟩ := c3.resolve_left n3
  obtain ⟨y4, e4, c4⟩ := l_szLotS_eq s.Books.Lots y3 h4 (by omega) b3
  rw [if_neg n3, e4, Option.bind_some]
  by_cases n4 : y4 < 0
  · exact ⟨-1, by rw [if_pos n4, Option.bind_some, if_pos (by omega)], .inl (by omega)⟩
  obtain ⟨b4, l4⟩ := c4.resolve_left n4
  obtain ⟨y5, e5, c5⟩ := l_szTradeS_eq s.Books.Trades y4 h5 (by omega) b4
  rw [if_neg n4, e5, Option.bind_some]
  by_cases n5 : y5 < 0
  · exact ⟨-1, by rw [if_pos n5, Option.bind_some, if_pos (by omega)], .inl (by omega)⟩
  obtain ⟨b5, l5⟩ := c5.resolve_left n5
  exact ⟨y5, by rw [if_neg n5, Option.bind_some, if_neg n5], .inr ⟨l1, l2, l3, l4, l5⟩⟩

theorem l_heldDisk_eq (q : Int) (n : Nat) (h : n < 1000000000) : l_heldDisk ⟨q, mkl mkFile 3 n 1⟩ 1 = some (1 + 3 * (n : Int)) := by
  unfold l_heldDisk l_heldFileS
  simp only
  rw [held_loop (fun m q i => l_heldFileS_L1 (mkl mkFile 3 n 1) _ m (q, i)) mkFile 3 n 1 h (by omega) (by omega) (by omega) (fun m k i hx hi k0 k1 => ?_) (fun m q => ?_)]
  · rw [Option.bind_some, if_neg (by omega)]; rfl
  · obtain ⟨e1, e2, c1, c2⟩ := ixf hi h
    have u1 : w64 (k + 1) = k + 1 := w64s (by omega) (by omega)
    have u2 : w64 (k + 2) = k + 2 := w64s (by omega) (by omega)
    have u3 : w64 (k + 3) = k + 3 := w64s (by omega) (by omega)
    have z1 : k + 1 + 1 = k + 2 := by omega
    have z2 : k + 2 + 1 = k + 3 := by omega
    rw [l_heldFileS_L1.eq_2]
    simp only [ln_map, mkl_len, c1, c2, if_true, e2, show (((3 : Nat) : Int)) = 3 from rfl] at hx ⊢
    rw [hx]
    simp only [Option.bind_some, mkFile, ne_eq, not_true_eq_false, if_false, u1, z1, u2, z2, u3, e1, l_markText_mtx (k + 1) (by omega), l_markText_mtx (k + 2) (by omega)]
  · rw [l_heldFileS_L1.eq_2, ln_map, mkl_len, if_neg (by omega)]

theorem mark_save (s : MSave) (k : Int) (h : SMB s.Books) (h0 : 1 ≤ k) (hk : k ≤ 1000000000) : ∃ y, l_markSave s.From s.Books.Accounts s.Books.Instrs s.Books.Bals s.Books.Lots s.Books.Trades s.Books.Lot k = some y ∧ 1 ≤ y.1 := by
  obtain ⟨h1, h2, h3, h4, h5⟩ := h
  unfold l_markSave l_markBooks
  rw [l_markAccountS_eq _ k h1 (by omega) (by omega), Option.bind_some, l_markInstrS_eq _ _ h2 (by omega) (by omega), Option.bind_some, l_markBalS_eq _ _ h3 (by omega) (by omega), Option.bind_some,
    l_markLotS_eq _ _ h4 (by omega) (by omega), Option.bind_some, l_markTradeS_eq _ _ h5 (by omega) (by omega), Option.bind_some]
  exact ⟨_, rfl, by simp only; omega⟩

/-- SaveWrite: its steps, one after the other. -/
theorem write_eq (q : Int) (l : List MFile) (hs : SMD ⟨q, l⟩) (s : MSave) (hb : SMB s.Books) : Both (s_SaveWrite ⟨q, l⟩ s) (i_SaveWrite ⟨q, l⟩ s) := by
  unfold s_SaveWrite i_SaveWrite
  rw [clone_eq _ hs.1, Option.bind_some]
  have key : ∀ (m n : Nat) (k : Int) (q' : Int) (l' : List MFile), SMD ⟨q', l'⟩ → 0 ≤ k → k + m = 4 → m < n →
      Both (s_SaveWrite_L1 ⟨q, l⟩ s (fun (w18, w19) => some (w18, w19, (0 : Int))) n (q', l', k)) (i_SaveWrite_L1 ⟨q, l⟩ s (fun (w20, w21) => some (w20, w21, (0 : Int))) n (q', l', k)) := by
    intro m
    induction m with
    | zero =>
      intro n k q' l' h' hk0 hk hn
      obtain ⟨n, rfl⟩ : ∃ j, n = j + 1 := ⟨n - 1, by omega⟩
      rw [s_SaveWrite_L1.eq_2, i_SaveWrite_L1.eq_2, if_neg (by omega), if_neg (by omega)]
      exact ⟨(q', l', 0), rfl, rfl, h'⟩
    | succ m ih =>
      intro n k q' l' h' hk0 hk hn
      obtain ⟨n, rfl⟩ : ∃ j, n = j + 1 := ⟨n - 1, by omega⟩
      obtain ⟨r, r1, r2, r3⟩ := step_eq q' l' h' s hb k
      rw [s_SaveWrite_L1.eq_2, i_SaveWrite_L1.eq_2, if_pos (by omega), if_pos (by omega), r1, r2, Option.bind_some, Option.bind_some]
      by_cases c1 : r.2.2 = 1
      · rw [if_pos c1, if_neg (by omega), if_pos c1]
        exact ⟨(0, [], 1), by rw [c1], rfl, SMD_nil0⟩
      · rw [if_neg c1]
        by_cases c0 : r.2.2 = 0
        · have e : w64 (k + 1) = k + 1 := w64s (by omega) (by omega)
          rw [if_neg (by omega), if_pos c0, e]
          exact ih n (k + 1) r.1 r.2.1 r3 (by omega) (by omega) (by omega)
        · rw [if_pos c0, if_neg c0, if_neg c1, copy_eq _ hs.1, clone_eq _ hs.1]
          exact ⟨(q, l, r.2.2), rfl, rfl, hs⟩
  exact key 4 FUEL 0 q l hs (by omega) (by omega) (FUEL_gt (by omega))

theorem lw_FnExactSaveStep (d : MDisk) (s : MSave) (k : Int) (hl : d.Files.length ≤ maxLen) (h1 : ∀ f ∈ d.Files, f.Safe.length ≤ maxLen ∧ f.Late.length ≤ maxLen)
    (b1 : s.Books.Accounts.length ≤ maxLen) (b2 : s.Books.Instrs.length ≤ maxLen) (b3 : s.Books.Bals.length ≤ maxLen) (b4 : s.Books.Lots.length ≤ maxLen) (b5 : s.Books.Trades.length ≤ maxLen) : l_FnExactSaveStep d s k = some true := by
  obtain ⟨y, hy, hr⟩ := l_szDisk_eq d hl h1
  unfold l_FnExactSaveStep
  rw [hy, Option.bind_some]
  by_cases hn : y < 0
  · rw [if_pos hn]
  obtain ⟨hd, hyb⟩ := hr.resolve_left hn
  obtain ⟨y2, hy2, hr2⟩ := l_szSave_eq s y b1 b2 b3 b4 b5 (by omega) hyb
  rw [if_neg hn, hy2, Option.bind_some]
  by_cases hn2 : y2 < 0
  · rw [if_pos hn2]
  have hb : SMB s.Books := hr2.resolve_left hn2
  rw [if_neg hn2]
  have hto := l_toDisk_eq d hd
  have hts := l_toSave_eq s hb
  have hed := l_eqDisk_eq d d (by have := hd.1; omega)
  have hes := l_eqSave_eq s s hb
  have hmd := l_markDisk_eq d.Room d.Files (by have := hd.1; omega)
  obtain ⟨ym, hms, hm1⟩ := mark_save s (1 + 3 * (d.Files.length : Int)) hb (by omega) (by have := hd.1; omega)
  obtain ⟨d1, d2⟩ := d
  obtain ⟨r, r1, r2, r3⟩ := step_eq d1 d2 hd s hb k
  have her := l_eqDisk_eq ⟨r.1, r.2.1⟩ ⟨r.1, r.2.1⟩ (by have := r3.1; simp only at this ⊢; omega)
  have hmr := l_markDisk_eq r.1 r.2.1 (by have := r3.1; simp only at this; omega)
  have hhr := l_heldDisk_eq r.1 r.2.1.length (by have := r3.1; simp only at this; omega)
  obtain ⟨f, bk⟩ := s
  obtain ⟨x1, x2, x3, x4, x5, x6⟩ := bk
  simp only at hto hts hmd hms hes r1 r2
  simp only [hto, hts, r1, r2, her, hed, hes, hmd, hms, hmr, hhr, Option.bind_some, decide_true, not_true_eq_false, if_false, ne_eq]
  rw [if_neg (by omega), if_neg (by omega), if_neg (by omega)]
theorem lw_FnExactSaveWrite (d : MDisk) (s : MSave) (hl : d.Files.length ≤ maxLen) (h1 : ∀ f ∈ d.Files, f.Safe.length ≤ maxLen ∧ f.Late.length ≤ maxLen)
    (b1 : s.Books.Accounts.length ≤ maxLen) (b2 : s.Books.Instrs.length ≤ maxLen) (b3 : s.Books.Bals.length ≤ maxLen) (b4 : s.Books.Lots.length ≤ maxLen) (b5 : s.Books.Trades.length ≤ maxLen) : l_FnExactSaveWrite d s = some true := by
  obtain ⟨y, hy, hr⟩ := l_szDisk_eq d hl h1
  unfold l_FnExactSaveWrite
  rw [hy, Option.bind_some]
  by_cases hn : y < 0
  · rw [if_pos hn]
  obtain ⟨hd, hyb⟩ := hr.resolve_left hn
  obtain ⟨y2, hy2, hr2⟩ := l_szSave_eq s y b1 b2 b3 b4 b5 (by omega) hyb
  rw [if_neg hn, hy2, Option.bind_some]
  by_cases hn2 : y2 < 0
  · rw [if_pos hn2]
  have hb : SMB s.Books := hr2.resolve_left hn2
  rw [if_neg hn2]
  have hto := l_toDisk_eq d hd
  have hts := l_toSave_eq s hb
  have hed := l_eqDisk_eq d d (by have := hd.1; omega)
  have hes := l_eqSave_eq s s hb
  have hmd := l_markDisk_eq d.Room d.Files (by have := hd.1; omega)
  obtain ⟨ym, hms, hm1⟩ := mark_save s (1 + 3 * (d.Files.length : Int)) hb (by omega) (by have := hd.1; omega)
  obtain ⟨d1, d2⟩ := d
  obtain ⟨r, r1, r2, r3⟩ := write_eq d1 d2 hd s hb
  have her := l_eqDisk_eq ⟨r.1, r.2.1⟩ ⟨r.1, r.2.1⟩ (by have := r3.1; simp only at this ⊢; omega)
  have hmr := l_markDisk_eq r.1 r.2.1 (by have := r3.1; simp only at this; omega)
  have hhr := l_heldDisk_eq r.1 r.2.1.length (by have := r3.1; simp only at this; omega)
  obtain ⟨f, bk⟩ := s
  obtain ⟨x1, x2, x3, x4, x5, x6⟩ := bk
  simp only at hto hts hmd hms hes r1 r2
  simp only [hto, hts, r1, r2, her, hed, hes, hmd, hms, hmr, hhr, Option.bind_some, decide_true, not_true_eq_false, if_false, ne_eq]
  rw [if_neg (by omega), if_neg (by omega), if_neg (by omega)]
end Go.Proofs.YtbknlijpkabcnaaGreat.K

/- The laws of this seat, with what a row knows of its arguments. No condition. -/
namespace Go.Proofs.YtbknlijpkabcnaaGreat.K
set_option linter.all false
open Go

theorem law_FnExactSaveStep (d : MDisk) (s : MSave) (k : Int) (h : MDisk.ok d) (h2 : MSave.ok s) (_ : (Lit.int .i64 k).wf = true) : l_FnExactSaveStep d s k = some true :=
  lw_FnExactSaveStep d s k h.2.1 (fun f hf => (h.2.2 f hf).2) h2.2.1.1 h2.2.2.1.1 h2.2.2.2.1.1 h2.2.2.2.2.1.1 h2.2.2.2.2.2.1.1
theorem law_FnExactSaveWrite (d : MDisk) (s : MSave) (h : MDisk.ok d) (h2 : MSave.ok s) : l_FnExactSaveWrite d s = some true :=
  lw_FnExactSaveWrite d s h.2.1 (fun f hf => (h.2.2 f hf).2) h2.2.1.1 h2.2.2.1.1 h2.2.2.2.1.1 h2.2.2.2.2.1.1 h2.2.2.2.2.2.1.1

end Go.Proofs.YtbknlijpkabcnaaGreat.K
