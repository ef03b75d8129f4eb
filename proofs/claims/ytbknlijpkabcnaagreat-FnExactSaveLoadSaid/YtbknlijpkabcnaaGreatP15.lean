/- Copying, measuring and marking disks, and how saves are loaded. No condition. -/
import Derived.Test.YtbknlijpkabcnaaGreatP14
namespace Go.Proofs.YtbknlijpkabcnaaGreat.K
set_option linter.all false
open Go
open Classical

theorem copy_loop {α R : Type} {a : List α} (F : Nat → List α → Int → Option R) (K : List α → Option R) (hN : a.length < 1000000000)
    (hs : ∀ n (v : List α) (i : Nat) x, v.length = a.length → i < a.length → a[i]? = some x → F (n + 1) v (i : Int) = F n (v.set i x) ((i : Int) + 1))
    (he : ∀ n (v : List α), v.length = a.length → F (n + 1) v (a.length : Int) = K v) (v : List α) (hv : v.length = a.length) : F FUEL v 0 = K a := by
  have key : ∀ n (i : Nat), i ≤ a.length → a.length - i < n → F n (a.take i ++ v.drop i) (i : Int) = K a := by
    intro n
    induction n with
    | zero => intro i _ h; omega
    | succ n ih =>
      intro i hi hn
      have hlen : (a.take i ++ v.drop i).length = a.length := by rw [List.length_append, List.length_take, List.length_drop, hv]; omega
      rcases Nat.lt_or_ge i a.length with h | h
      · have hx : a[i]? = some a[i] := List.getElem?_eq_getElem h
        rw [hs n _ i _ hlen h hx]
        have e1 : (a.take i ++ v.drop i).set i a[i] = a.take (i + 1) ++ v.drop (i + 1) := by
          have hl : (a.take i).length = i := by rw [List.length_take]; omega
          rw [List.set_append_right _ _ (by omega), hl, Nat.sub_self, List.drop_eq_getElem_cons (by omega : i < v.length), List.take_succ_eq_append_getElem h, List.append_assoc]
          rfl
        rw [e1]
        exact ih (i + 1) h (by omega)
      · have : i = a.length := by omega
        rw [this] at hlen ⊢
        rw [he n _ hlen, ← hv, List.drop_length, List.append_nil, hv, List.take_length]
  exact key FUEL 0 (Nat.zero_le _) (FUEL_gt (by omega))

theorem l_toFileS_eq (a : List MFile) (h : a.length < 1000000000) : l_toFileS a = some a := by
  unfold l_toFileS
  simp only [ln_map]
  rw [if_pos (by omega)]
  refine copy_loop (a := a) (fun n v i => l_toFileS_L1 a _ n (v, i)) some h (fun n v i x hv hi hx => ?_) (fun n v hv => ?_) _ (by simp)
  · obtain ⟨e1, e2, c1, c2⟩ := ixf hi h
    have c1' : (i : Int) < (v.length : Int) := by omega
    have hy : v[i]? = some (v[i]'(by omega)) := List.getElem?_eq_getElem _
    rw [l_toFileS_L1.eq_2]
    simp only [ln_map, c1, c1', c2, and_self, if_true, e2, hx, hy, Option.bind_some, l_toFile, e1]
  · rw [l_toFileS_L1.eq_2, ln_map, if_neg (by omega)]
theorem l_toDisk_eq (d : MDisk) (h : SMD d) : l_toDisk d = some (d.Room, d.Files) := by
  unfold l_toDisk; rw [l_toFileS_eq _ (by have := h.1; omega), Option.bind_some]

theorem l_szFile_eq (f : MFile) (a : Int) (h1 : f.Safe.length ≤ maxLen) (h2 : f.Late.length ≤ maxLen) (ha : 0 ≤ a) (hb : a ≤ 1048576) :
    l_szFile f a = some (if a < f.Safe.length + f.Late.length then -1 else a - f.Safe.length - f.Late.length) := by
  have m : maxLen = 9223372036854775807 := rfl
  unfold l_szFile
  have q1 : ln f.Safe = (f.Safe.length : Int) := rfl
  have q2 : ln f.Late = (f.Late.length : Int) := rfl
  have e1 : w64 (a - (f.Safe.length : Int)) = a - f.Safe.length := w64_id (by omega) (by omega)
  rw [q1, q2, e1]
  split
  · rw [if_pos (by omega)]
  · have e2 : w64 (a - (f.Safe.length : Int) - (f.Late.length : Int)) = a - f.Safe.length - f.Late.length := w64_id (by omega) (by omega)
    rw [e2]
    split
    · rw [if_pos (by omega)]
    · rw [if_neg (by omega)]

theorem l_szFileS_eq (l : List MFile) (a : Int) (hl : l.length ≤ maxLen) (h1 : ∀ f ∈ l, f.Safe.length ≤ maxLen ∧ f.Late.length ≤ maxLen) (ha : 0 ≤ a) (hb : a ≤ 1048576) :
    ∃ y, l_szFileS l a = some y ∧ (y < 0 ∨ ((l.length : Int) ≤ 1048576 ∧ (tot l : Int) ≤ 1048576)) := by
  have m : maxLen = 9223372036854775807 := rfl
  unfold l_szFileS
  simp only [ln_map]
  have e1 : w64 (a - (l.length : Int)) = a - l.length := w64_id (by omega) (by omega)
  rw [e1]
  split
  · exact ⟨-1, rfl, Or.inl (by omega)⟩
  rename_i hc
  have key : ∀ n (i : Nat) (c : Int), 0 ≤ c → c ≤ 1048576 → i ≤ l.length → l.length - i < n → ∃ y, l_szFileS_L1 l (fun w => some w) n (c, (i : Int)) = some y ∧ (y < 0 ∨ (tot (l.drop i) : Int) ≤ c) := by
    intro n
    induction n with
    | zero => intro i c _ _ _ h; omega
    | succ n ih =>
      intro i c h0 hc2 hi hn
      rw [l_szFileS_L1.eq_2]
      simp only [ln_map]
      rcases Nat.lt_or_ge i l.length with h | h
      · obtain ⟨g1, g2, c1, c2⟩ := ixf (i := i) (m := l.length) h (by omega)
        have hx : l[i]? = some l[i] := List.getElem?_eq_getElem h
        obtain ⟨b1, b2⟩ := h1 l[i] (List.getElem_mem h)
        rw [if_pos c1, if_pos c2, g2, hx, Option.bind_some, l_szFile_eq _ _ b1 b2 h0 hc2, Option.bind_some, g1]
        rw [List.drop_eq_getElem_cons h, tot_cons]
        by_cases k2 : c < (l[i].Safe.length : Int) + l[i].Late.length
        · rw [if_pos k2, if_pos (by omega)]
          exact ⟨_, rfl, Or.inl (by omega)⟩
        · rw [if_neg k2, if_neg (by omega)]
          obtain ⟨y, hy, hr⟩ := ih (i + 1) (c - (l[i]).Safe.length - (l[i]).Late.length) (by omega) (by omega) h (by omega)
          refine ⟨y, hy, hr.imp id fun _ => by omega⟩
      · rw [if_neg (by omega)]
        have : l.drop i = [] := List.drop_eq_nil_of_le h
        exact ⟨c, rfl, Or.inr (by rw [this]; simpa [tot] using h0)⟩
  obtain ⟨y, hy, hr⟩ := key FUEL 0 (a - l.length) (by omega) (by omega) (Nat.zero_le _) (FUEL_gt (by omega))
  refine ⟨y, hy, hr.imp id fun h => ?_⟩
  rw [List.drop_zero] at h
  omega

theorem l_szDisk_eq (d : MDisk) (hl : d.Files.length ≤ maxLen) (h1 : ∀ f ∈ d.Files, f.Safe.length ≤ maxLen ∧ f.Late.length ≤ maxLen) :
    ∃ y, l_szDisk d 1048576 = some y ∧ (y < 0 ∨ SMD d) := by
  obtain ⟨y, hy, hr⟩ := l_szFileS_eq d.Files 1048576 hl h1 (by omega) (by omega)
  unfold l_szDisk
  rw [hy, Option.bind_some]
  split
  · exact ⟨_, rfl, Or.inl (by omega)⟩
  · refine ⟨y, rfl, hr.imp id fun h => ⟨by omega, by omega⟩⟩

theorem l_markText_L1_eq (k : List UInt8 → Option (List UInt8)) : ∀ (m n : Nat) (x : Int) (acc : List UInt8), x < 10 ^ m → x ≤ 1000000000000000000 → m < n → acc.length + m ≤ 100 → ∃ r, l_markText_L1 k n (x, acc) = k r ∧ r.length ≤ 100 := by
  intro m
  induction m with
  | zero =>
    intro n x acc hx hx2 hn ha
    obtain ⟨n, rfl⟩ : ∃ n', n = n' + 1 := ⟨n - 1, by omega⟩
    rw [l_markText_L1.eq_2, if_neg (by simp at hx; omega)]
    exact ⟨_, rfl, by omega⟩
  | succ m ih =>
    intro n x acc hx hx2 hn ha
    obtain ⟨n, rfl⟩ : ∃ n', n = n' + 1 := ⟨n - 1, by omega⟩
    rw [l_markText_L1.eq_2]
    split
    · have m1 : maxLen = 9223372036854775807 := rfl
      have hp : (10 : Int) ^ (m + 1) = 10 ^ m * 10 := Int.pow_succ ..
      rw [if_pos (by rw [List.length_singleton]; omega), Int.tdiv_eq_ediv_of_nonneg (by omega)]
      rw [w64_id (n := x / 10) (by omega) (by omega)]
      exact ih n (x / 10) _ (by omega) (by omega) (by omega) (by rw [List.length_append, List.length_singleton]; omega)
    · exact ⟨_, rfl, by omega⟩

theorem l_markText_eq (x : Int) (h : x ≤ 2000000000000) : ∃ r, l_markText x = some r := by
  unfold l_markText
  split
  · exact ⟨_, rfl⟩
  · obtain ⟨r, h1, h2⟩ := l_markText_L1_eq (fun w8 => (if List.length ([109] : List UInt8) + List.length w8 ≤ maxLen then some (([109] : List UInt8) ++ w8) else none)) 13 FUEL x [] (by omega) (by omega) (FUEL_gt (by omega)) (by simp)
    have m1 : maxLen = 9223372036854775807 := rfl
    rw [h1]
    exact ⟨_, by rw [if_pos (by rw [List.length_singleton]; omega)]⟩
def mtx (x : Int) : List UInt8 := (l_markText x).getD []
theorem l_markText_mtx (x : Int) (h : x ≤ 2000000000000) : l_markText x = some (mtx x) := by
  obtain ⟨r, hr⟩ := l_markText_eq x h
  rw [mtx, hr]; rfl

def mkFile (k : Int) : MFile := ⟨k, mtx (k + 1), mtx (k + 2)⟩
theorem l_markFileS_eq (l : List MFile) (k : Int) (h : l.length < 1000000000) (h0 : 0 ≤ k) (hk : k ≤ 10000000000) : l_markFileS l k = some (k + 3 * l.length, mkl mkFile 3 l.length k) := by
  unfold l_markFileS
  refine mark_loop (N := l.length) (fun n v k i => l_markFileS_L1 _ n (v, k, i)) mkFile 3 (fun v k => some (k, v)) h (by omega) (fun n v k i hv hi k0 k1 => ?_) (fun n v k hv => ?_) l k rfl h0 (by omega)
  · obtain ⟨e1, e2, c1, c2⟩ := ixf hi h
    have u1 : w64 (k + 1) = k + 1 := w64s (by omega) (by omega)
    have u2 : w64 (k + 2) = k + 2 := w64s (by omega) (by omega)
    have u3 : w64 (k + 3) = k + 3 := w64s (by omega) (by omega)
    have z1 : k + 1 + 1 = k + 2 := by omega
    have z2 : k + 2 + 1 = k + 3 := by omega
    have hx : v[i]? = some (v[i]'(by omega)) := List.getElem?_eq_getElem _
    have hi' : i < v.length := by omega
    have c1' : (i : Int) < (v.length : Int) := by omega
    rw [l_markFileS_L1.eq_2]
    simp only [ln_map, List.length_set, c1', c2, and_self, if_true, e2, hx, Option.bind_some, List.getElem?_set_self hi', List.set_set, e1, u1, u2, z1, z2, u3]
    rw [l_markText_mtx (k + 1) (by omega), Option.bind_some, l_markText_mtx (k + 2) (by omega), Option.bind_some]
    rfl
  · rw [l_markFileS_L1.eq_2, ln_map, if_neg (by omega)]

theorem l_markDisk_eq (r : Int) (l : List MFile) (h : l.length < 1000000000) : l_markDisk r l 1 = some (1 + 3 * (l.length : Int), mkl mkFile 3 l.length 1) := by
  unfold l_markDisk
  rw [l_markFileS_eq l 1 h (by omega) (by omega), Option.bind_some]

theorem mh_books (b : MBooks) (f : Int) (h : SMB b) : ∃ k a1 a2 a3 a4 a5, 1 ≤ k ∧ l_markBooks b.Accounts b.Instrs b.Bals b.Lots b.Trades b.Lot 1 = some (k, a1, a2, a3, a4, a5) ∧
    l_heldBooks ⟨a1, a2, a3, a4, a5, f⟩ 1 = some k := by
  obtain ⟨h1, h2, h3, h4, h5⟩ := h
  refine ⟨1 + 2 * (b.Accounts.length : Int) + 2 * (b.Instrs.length : Int) + 3 * (b.Bals.length : Int) + 5 * (b.Lots.length : Int) + 8 * (b.Trades.length : Int),
    mkl mkAccount 2 b.Accounts.length 1, mkl mkInstr 2 b.Instrs.length (1 + 2 * (b.Accounts.length : Int)), mkl mkBal 3 b.Bals.length (1 + 2 * (b.Accounts.length : Int) + 2 * (b.Instrs.length : Int)),
    mkl mkLot 5 b.Lots.length (1 + 2 * (b.Accounts.length : Int) + 2 * (b.Instrs.length : Int) + 3 * (b.Bals.length : Int)),
    mkl mkTrade 8 b.Trades.length (1 + 2 * (b.Accounts.length : Int) + 2 * (b.Instrs.length : Int) + 3 * (b.Bals.length : Int) + 5 * (b.Lots.length : Int)), by omega, ?_, ?_⟩
  · unfold l_markBooks
    rw [l_markAccountS_eq _ 1 h1 (by omega) (by omega), Option.bind_some, l_markInstrS_eq _ _ h2 (by omega) (by omega), Option.bind_some, l_markBalS_eq _ _ h3 (by omega) (by omega), Option.bind_some,
      l_markLotS_eq _ _ h4 (by omega) (by omega), Option.bind_some, l_markTradeS_eq _ _ h5 (by omega) (by omega), Option.bind_some]
  · unfold l_heldBooks
    simp only []
    rw [l_heldAccountS_eq _ 1 h1 (by omega) (by omega), Option.bind_some, if_neg (by omega), l_heldInstrS_eq _ _ h2 (by omega) (by omega), Option.bind_some, if_neg (by omega), l_heldBalS_eq _ _ h3 (by omega) (by omega), Option.bind_some, if_neg (by omega),
      l_heldLotS_eq _ _ h4 (by omega) (by omega), Option.bind_some, if_neg (by omega), l_heldTradeS_eq _ _ h5 (by omega) (by omega), Option.bind_some, if_neg (by omega)]

/-- What a save is loaded as. -/
noncomputable def sLoad (d : MDisk) : Option (Int × MBooks) :=
  if (dRead d 21).2 = true then
    (if (uns (dRead d 21).1 0).2.2 = 0 ∧ (uns (dRead d 21).1 0).2.1 = (dRead d 21).1.length then
      (gn (uns (dRead d 21).1 0).1 0).bind fun p => if 0 ≤ p.1 ∧ p.1 ≤ 19 then (bksO ((uns (dRead d 21).1 0).1.drop p.2.toNat)).map fun b => (p.1, b) else none
    else none)
  else none
def outS : Option (Int × MBooks) → Int × List MAccount × List MInstr × List MBal × List MLot × List MTrade × Int × Bool
  | some (f, b) => (f, b.Accounts, b.Instrs, b.Bals, b.Lots, b.Trades, b.Lot, true)
  | none => (0, [], [], [], [], [], 0, false)

theorem bksO_ok {b : List UInt8} {k : MBooks} (h : bksO b = some k) : BkOk k ∧ encs (nums k) = b := by
  unfold bksO at h
  rcases hp : parse b with _ | q
  · rw [hp] at h; cases h
  · rw [hp, Option.bind_some] at h
    split at h
    · rename_i hq
      cases h
      exact ⟨hq.2, parse_encs hp hq.1⟩
    · cases h
theorem uns_len (b : List UInt8) (a : Int) : (uns b a).1.length ≤ b.length := by
  unfold uns
  split
  · simp
  · split
    · simp
    · split
      · simp
      · split
        · simp only [List.length_take, List.length_drop]; omega
        · simp
theorem SMB_nil (n : Int) : SMB ⟨[], [], [], [], [], n⟩ := by simp [SMB]

theorem s_SaveLoad_eq (d : MDisk) (h : SMD d) : s_SaveLoad d = some (outS (sLoad d)) := by
  have hl := dRead_len (d := d) h 21
  have hu := uns_len (dRead d 21).1 0
  unfold s_SaveLoad sLoad
  rw [s_DiskRead_eq h, Option.bind_some]
  by_cases c1 : (dRead d 21).2 = true
  · rw [if_neg (by simpa using c1), if_pos c1, s_Unseal_eq _ _ (by omega), Option.bind_some]
    have q : ln (dRead d 21).1 = ((dRead d 21).1.length : Int) := rfl
    by_cases c2 : (uns (dRead d 21).1 0).2.2 = 0
    · by_cases c3 : (uns (dRead d 21).1 0).2.1 = (dRead d 21).1.length
      · rw [if_neg (by simpa using c2), if_neg (by rw [q]; simpa using c3), if_pos ⟨c2, c3⟩, s_GetNum_eq _ _ (by omega), Option.bind_some]
        rcases hg : gn (uns (dRead d 21).1 0).1 0 with _ | ⟨v, e⟩
        · rw [gnT, hg]; rfl
        · obtain ⟨g1, g2, g3, g4, g5, g6, g7⟩ := gn_bd hg
          rw [gnT, hg, Option.bind_some]
          simp only []
          rw [if_neg (by simp), s_isSeg, Option.bind_some]
          by_cases c4 : 0 ≤ v ∧ v ≤ 19
          · rw [if_pos c4, decide_eq_true c4, if_neg (by simp), if_pos ⟨by omega, by rw [ln_map]; exact g5⟩, List.length_map, List.take_of_length_le (by rw [List.length_drop]; omega), s_BooksRead_eq _ (by rw [List.length_drop]; omega), Option.bind_some]
            rcases hb : bksO ((uns (dRead d 21).1 0).1.drop e.toNat) with _ | b
            · rfl
            · rfl
          · rw [if_neg c4, decide_eq_false c4, if_pos (by simp)]; rfl
      · rw [if_neg (by simpa using c2), if_pos (by rw [q]; simpa using c3), if_neg (fun k => c3 k.2)]; rfl
    · rw [if_pos (by simpa using c2), if_neg (fun k => c2 k.1)]; rfl
  · rw [if_pos (by simpa using c1), if_neg c1]; rfl

theorem i_SaveLoad_eq (d : MDisk) (h : SMD d) : i_SaveLoad d = some (outS (sLoad d)) := by
  have hl := dRead_len (d := d) h 21
  have hu := uns_len (dRead d 21).1 0
  unfold i_SaveLoad sLoad
  rw [i_DiskRead_eq h, Option.bind_some]
  by_cases c1 : (dRead d 21).2 = true
  · rw [if_neg (by simpa using c1), if_pos c1, i_Unseal_eq _ _ (by omega), Option.bind_some]
    have q : ln (dRead d 21).1 = ((dRead d 21).1.length : Int) := rfl
    by_cases c2 : (uns (dRead d 21).1 0).2.2 = 0
    · by_cases c3 : (uns (dRead d 21).1 0).2.1 = (dRead d 21).1.length
      · rw [if_neg (by simpa using c2), if_neg (by rw [q]; simpa using c3), if_pos ⟨c2, c3⟩, i_GetNum_eq _ _ (by omega), Option.bind_some]
        rcases hg : gn (uns (dRead d 21).1 0).1 0 with _ | ⟨v, e⟩
        · rw [gnT, hg]; rfl
        · obtain ⟨g1, g2, g3, g4, g5, g6, g7⟩ := gn_bd hg
          rw [gnT, hg, Option.bind_some]
          simp only []
          rw [if_neg (by simp), i_isSeg_eq, Option.bind_some]
          by_cases c4 : 0 ≤ v ∧ v ≤ 19
          · rw [if_pos c4, decide_eq_true c4, if_neg (by simp), if_pos ⟨by omega, by rw [ln_map]; exact g5⟩, List.length_map, List.take_of_length_le (by rw [List.length_drop]; omega), i_BooksRead_eq _ (by rw [List.length_drop]; omega), Option.bind_some]
            rcases hb : bksO ((uns (dRead d 21).1 0).1.drop e.toNat) with _ | b
            · rw [i_SavePack_eq (by simp [outT, SMB])]
              rfl
            · obtain ⟨b1, b2⟩ := bksO_ok hb
              have hu2 : uns (dRead d 21).1 0 = ((uns (dRead d 21).1 0).1, (uns (dRead d 21).1 0).2.1, 0) := Prod.ext rfl (Prod.ext rfl c2)
              obtain ⟨u1, u2⟩ := uns_seal hu2 c3
              have hv : savB v b = (uns (dRead d 21).1 0).1 := by
                have hz : (0 : Int).toNat = 0 := rfl
                rw [savB, b2, ← g7, hz, List.drop_zero, Int.sub_zero, List.take_append_drop]
              have hsp : i_SavePack ⟨v, b⟩ = some ((dRead d 21).1, true) := by
                rw [i_SavePack_eq (SMB_of b1), if_pos ⟨b1, c4⟩, hv, if_neg (by omega), u2]
              obtain ⟨x1, x2, x3, x4, x5, x6⟩ := b
              simp only [outT]
              rw [hsp, Option.bind_some, if_neg (by simp), if_neg (by simp)]
              rfl
          · rw [if_neg c4, decide_eq_false c4, if_pos (by simp)]; rfl
      · rw [if_neg (by simpa using c2), if_pos (by rw [q]; simpa using c3), if_neg (fun k => c3 k.2)]; rfl
    · rw [if_pos (by simpa using c2), if_neg (fun k => c2 k.1)]; rfl
  · rw [if_pos (by simpa using c1), if_neg c1]; rfl

theorem sLoad_SMB {d : MDisk} {f : Int} {b : MBooks} (h : sLoad d = some (f, b)) : SMB b := by
  unfold sLoad at h
  split at h
  · split at h
    · rcases hg : gn (uns (dRead d 21).1 0).1 0 with _ | p
      · rw [hg] at h; cases h
      · rw [hg, Option.bind_some] at h
        split at h
        · rcases hb : bksO ((uns (dRead d 21).1 0).1.drop p.2.toNat) with _ | c
          · rw [hb] at h; cases h
          · rw [hb] at h; cases h
            exact SMB_of (bksO_ok hb).1
        · cases h
    · cases h
  · cases h

theorem iff_not (P : Prop) : ¬ ¬ (P ↔ P) := fun h => h Iff.rfl

theorem law_load (d : MDisk) (hl : d.Files.length ≤ maxLen) (h1 : ∀ f ∈ d.Files, f.Safe.length ≤ maxLen ∧ f.Late.length ≤ maxLen) : l_FnExactSaveLoad d = some true := by
  obtain ⟨y, hy, hr⟩ := l_szDisk_eq d hl h1
  unfold l_FnExactSaveLoad
  rw [hy, Option.bind_some]
  by_cases hn : y < 0
  · rw [if_pos hn]
  have hd : SMD d := hr.resolve_left hn
  rw [if_neg hn, l_toDisk_eq d hd, Option.bind_some]
  have hs := s_SaveLoad_eq d hd
  have hi := i_SaveLoad_eq d hd
  have hq : SMB ⟨(outS (sLoad d)).2.1, (outS (sLoad d)).2.2.1, (outS (sLoad d)).2.2.2.1, (outS (sLoad d)).2.2.2.2.1, (outS (sLoad d)).2.2.2.2.2.1, (outS (sLoad d)).2.2.2.2.2.2.1⟩ := by
    rcases h : sLoad d with _ | ⟨f, b⟩
    · exact SMB_nil 0
    · exact sLoad_SMB h
  generalize outS (sLoad d) = r at hs hi hq
  obtain ⟨r1, r2, r3, r4, r5, r6, r7, r8⟩ := r
  obtain ⟨k, a1, a2, a3, a4, a5, k1, hm, hh⟩ := mh_books ⟨r2, r3, r4, r5, r6, r7⟩ r7 hq
  have hms : l_markSave r1 r2 r3 r4 r5 r6 r7 1 = some (k, a1, a2, a3, a4, a5) := by
    unfold l_markSave; simp only [] at hm; rw [hm]; rfl
  have hhs : l_heldSave ⟨r1, ⟨a1, a2, a3, a4, a5, r7⟩⟩ 1 = some k := by
    unfold l_heldSave; rw [hh, Option.bind_some, if_neg (by omega)]
  have he := l_eqSave_eq ⟨r1, ⟨r2, r3, r4, r5, r6, r7⟩⟩ ⟨r1, ⟨r2, r3, r4, r5, r6, r7⟩⟩ hq
  have hed := l_eqDisk_eq d d (by have := hd.1; omega)
  have hmd := l_markDisk_eq d.Room d.Files (by have := hd.1; omega)
  obtain ⟨d1, d2⟩ := d
  simp only [] at hs hi hmd ⊢
  simp only [hs, hi, he, hed, hmd, hms, hhs, Option.bind_some, iff_self, not_true_eq_false, if_false, decide_true, ne_eq]
  rw [if_neg (by omega), if_neg (by omega), if_neg (by omega)]
theorem law_FnExactSaveLoad (d : MDisk) (h : (((Lit.int .i64 d.Room).wf = true) ∧ (d.Files.length ≤ maxLen ∧ ∀ y ∈ d.Files, ((Lit.int .i64 y.Name).wf = true) ∧ (y.Safe.length ≤ maxLen) ∧ (y.Late.length ≤ maxLen)))) : l_FnExactSaveLoad d = some true :=
  law_load d h.2.1 fun f hf => (h.2.2 f hf).2

end Go.Proofs.YtbknlijpkabcnaaGreat.K
