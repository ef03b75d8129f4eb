/- A call by a contract. No condition. -/
import Derived.Test.YtbknlijpkabcnaaGreatK12
namespace Go.Proofs.YtbknlijpkabcnaaGreat.K
open Go

theorem idx_some : ∀ {m : List Nat} {id j : Nat}, idx m id = some j → m[j]? = some id
  | [], _, _, h => by simp [idx] at h
  | k :: m, id, j, h => by
    unfold idx at h
    cases e : Nat.beq k id with
    | true => rw [e] at h; simp at h; subst h; simp [Nat.eq_of_beq_eq_true e]
    | false =>
      rw [e] at h
      simp only [cond_false] at h
      cases hx : idx m id with
      | none => rw [hx] at h; cases h
      | some q => rw [hx] at h; simp at h; subst h; simpa using idx_some hx

theorem idx_none : ∀ {m : List Nat} {id : Nat}, idx m id = none → id ∉ m
  | [], _, _ => by simp
  | k :: m, id, h => by
    unfold idx at h
    cases e : Nat.beq k id with
    | true => rw [e] at h; simp at h
    | false =>
      rw [e] at h
      simp only [cond_false, Option.map_eq_none_iff] at h
      have hne : k ≠ id := fun hk => by subst hk; rw [Nat.beq_refl] at e; cases e
      simp [idx_none h, Ne.symm hne]

theorem upN_lt : ∀ (m : List Nat) (b j : Nat) (h : j < m.length), upN m b j = m[j]'h
  | [], _, _, h => by simp at h
  | k :: m, b, 0, _ => rfl
  | k :: m, b, j + 1, h => by simpa [upN] using upN_lt m b j (by simpa using h)

theorem upN_ge : ∀ (m : List Nat) (b j : Nat) (_ : m.length ≤ j), upN m b j = b + (j - m.length)
  | [], _, _, _ => by simp [upN]
  | k :: m, b, 0, h => by simp at h
  | k :: m, b, j + 1, h => by have := upN_ge m b j (by simpa using h); simp [upN, this]

theorem updO_wrs_other (m0 : List Nat) (b0 : Nat) : ∀ (l : List (Option AObj)) (m : List Nat) (b : Nat) (o : Ob) (n : Nat), n ∉ m → (¬ (b ≤ n ∧ n < b + (l.length - m.length))) → updO (wrs m0 b0 m b l) o n = o n
  | [], _, _, _, _, _, _ => rfl
  | x :: l, [], b, o, n, _, h => by
    have hne : Nat.beq n b = false := by
      cases e : Nat.beq n b with
      | false => rfl
      | true => have := Nat.eq_of_beq_eq_true e; simp at h; omega
    simp only [wrs, updO]
    rw [updO_wrs_other m0 b0 l [] (b + 1) _ n (by simp) (by simp at h ⊢; omega), hne]; rfl
  | x :: l, k :: m, b, o, n, hm, h => by
    simp only [List.mem_cons, not_or] at hm
    have hne : Nat.beq n k = false := by
      cases e : Nat.beq n k with
      | false => rfl
      | true => exact absurd (Nat.eq_of_beq_eq_true e) hm.1
    simp only [wrs, updO]
    rw [updO_wrs_other m0 b0 l m b _ n hm.2 (by simpa using h), hne]; rfl

theorem updO_wrs (m0 : List Nat) (b0 : Nat) : ∀ (l : List (Option AObj)) (m : List Nat) (b : Nat) (o : Ob) (j : Nat), m.Nodup → (∀ id ∈ m, ¬ (b ≤ id ∧ id < b + (l.length - m.length))) → j < l.length →
    updO (wrs m0 b0 m b l) o (upN m b j) = (l[j]?).join.map (upO m0 b0)
  | [], _, _, _, _, _, _, h => by simp at h
  | x :: l, [], b, o, 0, _, _, _ => by
    simp only [wrs, updO, upN]
    rw [updO_wrs_other m0 b0 l [] (b + 1) _ _ (by simp) (by omega)]
    simp [Nat.beq_refl]
  | x :: l, [], b, o, j + 1, hn, _, h => by
    simp only [wrs, updO]
    have := updO_wrs m0 b0 l [] (b + 1) (fun n => bif Nat.beq n b then Option.map (upO m0 b0) x else o n) j hn (by simp) (by simpa using h)
    rw [show upN [] b (j + 1) = upN [] (b + 1) j by simp [upN]; omega, this]; simp
  | x :: l, k :: m, b, o, 0, hn, hb, _ => by
    simp only [wrs, updO, upN]
    have hk := hb k (by simp)
    rw [List.nodup_cons] at hn
    rw [updO_wrs_other m0 b0 l m b _ _ hn.1 (by simpa using hk)]
    simp [Nat.beq_refl]
  | x :: l, k :: m, b, o, j + 1, hn, hb, h => by
    rw [List.nodup_cons] at hn
    simp only [wrs, updO]
    have := updO_wrs m0 b0 l m b (fun n => bif Nat.beq n k then Option.map (upO m0 b0) x else o n) j hn.2 (fun id hid => by have := hb id (by simp [hid]); simpa using this) (by simpa using h)
    rw [show upN (k :: m) b (j + 1) = upN m b j by simp [upN], this]; simp

theorem R.flat {w : World} {f : Phi} {own : Nat → Prop} (own' : Nat → Prop) {v : Value} {c : AV} (h : R w f own v c) (hc : c.flat = true) : R w f own' v c := by
  cases h with
  | any => exact .any _
  | b => exact .b _
  | p _ _ h => exact .p _ _ h
  | i => exact .i _ _
  | s _ h => exact .s _ h
  | nil => exact .nil
  | e0 => exact .e0 _
  | sl => simp [AV.flat] at hc
  | own0 _ _ h => exact .own0 _ _ h
  | own _ _ _ _ _ h => exact .own _ _ _ _ _ h
  | ref0 _ _ h => exact .ref0 _ _ h
  | ref _ _ _ _ _ _ _ _ h hl hb => exact .ref _ _ _ _ _ _ _ _ h hl hb
  | ptr _ _ _ _ _ _ h => exact .ptr _ _ _ _ _ _ h
  | ep _ _ _ _ _ _ _ h => exact .ep _ _ _ _ _ _ _ h
  | rp => simp [AV.flat] at hc
  | agg => simp [AV.flat] at hc
  | tup => simp [AV.flat] at hc
  | fn => simp [AV.flat] at hc
  | np => exact .np
  | ni => exact .ni
  | ifc t u c h =>
    refine .ifc t u c ?_
    cases h <;> simp [AV.flat] at hc
    · exact .i _ _
    · exact .s _ (by assumption)
    · exact .np

theorem keeps_sub {w : World} {own own' : Nat → Prop} (h : ∀ g, own' g → own g) : Keeps w own w own' := fun _ _ hn hc => ⟨fun h' => hn (h _ h'), hc⟩

/-- The elements of an object, read as a slice that nobody writes. -/
theorem R.of_arr {w : World} {f φ : Phi} {own own1 : Nat → Prop} {id z : Nat} {xs : List AV} (hat : ObjAt w f own id (.arr z xs)) (hk : Keeps w own w own1)
    (hfree : ∀ l g, f id = some l → l.blk = some g → ¬ own1 g) {v : Value} (h : R w f own v (.own id)) : R w φ own1 v (.sl z xs) := by
  rcases hat with ⟨h0, ⟨h1, h2⟩ | ⟨g, cap, cur, e, h1, h2, h3, h4, h5, h6, h7, h8⟩⟩
  · subst h2
    cases h with
    | own0 => exact .sl none z 0 [] (fun _ => Go.undef) h0 (Nat.le_refl _) (Nat.zero_le _) (fun x hx => by simp at hx) (fun x hx => by simp at hx) (fun k hk => by simp at hk) (fun j q x c hj => by simp at hj)
    | own _ g' cap' z' n' h' => rw [h1] at h'; cases h'
  · cases h with
    | own0 _ z' h' => rw [h1] at h'; cases h'
    | own _ g' cap' z' n' h' =>
      rw [h1] at h'; cases h'
      have hsz : ∀ k, k < xs.length * z → ∃ u, cur[k]? = some u := fun k hk => by
        have := Nat.mul_le_mul_right z h4
        exact ⟨cur[k]'(by omega), Array.getElem?_eq_getElem (by omega)⟩
      refine .sl _ z cap xs (fun k => (cur[k]?).getD Go.undef) h0 h4 h5 h6 h7 (fun k hk' => ?_) (fun j q x c hj hc => ?_)
      · obtain ⟨u, hu⟩ := hsz k hk'
        exact ⟨_, rfl, hfree _ g h1 rfl, by rw [add_mk, Nat.zero_add, cell_mk h2, hu]; rfl⟩
      · obtain ⟨u, hu, hru⟩ := h8 j q x c hj hc
        simp only [hu, Option.getD_some]
        exact (hru.mono f.le_refl hk).pure φ (AV.good.pure (h7 x (List.mem_of_getElem? hj) c (List.mem_of_getElem? hc)))

theorem R.of_ref {w : World} {f φ : Phi} {own own1 : Nat → Prop} {id lo len z : Nat} {xs : List AV} (hat : ObjAt w f own id (.arr z xs)) (hk : Keeps w own w own1)
    (hfree : ∀ l g, f id = some l → l.blk = some g → ¬ own1 g) {v : Value} (h : R w f own v (.ref id lo len)) : R w φ own1 v (.sl z ((xs.drop lo).take len)) := by
  rcases hat with ⟨h0, ⟨h1, h2⟩ | ⟨g, cap, cur, e, h1, h2, h3, h4, h5, h6, h7, h8⟩⟩
  · subst h2
    cases h with
    | ref0 => simp; exact .sl none z 0 [] (fun _ => Go.undef) h0 (Nat.le_refl _) (Nat.zero_le _) (fun x hx => by simp at hx) (fun x hx => by simp at hx) (fun k hk => by simp at hk) (fun j q x c hj => by simp at hj)
    | ref _ _ _ g' cap' z' n' ad h' => rw [h1] at h'; cases h'
  · cases h with
    | ref0 _ z' h' => rw [h1] at h'; cases h'
    | ref _ _ _ g' cap' z' n' ad h' hl hb =>
      rw [h1] at h'; cases h'
      have hlen : ((xs.drop lo).take len).length = len := by rw [List.length_take, List.length_drop]; omega
      have hm : (lo + len) * z ≤ xs.length * z := Nat.mul_le_mul_right z hl
      have hm2 := Nat.mul_le_mul_right z h4
      rw [Nat.add_mul] at hm
      have : R w φ own1 (.slice (some ad) ((xs.drop lo).take len).length (cap - lo)) (.sl z ((xs.drop lo).take len)) := by
        refine .sl _ z _ _ (fun k => (cur[lo * z + k]?).getD Go.undef) h0 (by rw [hlen]; omega) (by omega) (fun x hx => h6 x (List.mem_of_mem_drop (List.mem_of_mem_take hx)))
          (fun x hx => h7 x (List.mem_of_mem_drop (List.mem_of_mem_take hx))) (fun k hk' => ?_) (fun j q x c hj hc => ?_)
        · rw [hlen] at hk'
          have hpos : 0 < len := by rcases Nat.eq_zero_or_pos len with h | h; subst h; simp at hk'; exact h
          have hb' := hb (.inl (by omega))
          subst hb'
          have : lo * z + k < cur.size := by omega
          exact ⟨_, rfl, hfree _ g h1 rfl, by rw [add_mk, cell_mk h2, Array.getElem?_eq_getElem this]; rfl⟩
        · rw [List.getElem?_take] at hj
          split at hj
          · rw [List.getElem?_drop] at hj
            obtain ⟨u, hu, hru⟩ := h8 (lo + j) q x c hj hc
            rw [Nat.add_mul, Nat.add_assoc] at hu
            simp only [hu, Option.getD_some]
            exact (hru.mono f.le_refl hk).pure φ (AV.good.pure (h7 x (List.mem_of_getElem? hj) c (List.mem_of_getElem? hc)))
          · cases hj
      rw [hlen] at this
      exact this

section
variable {w : World} {f φ : Phi} {own own1 : Nat → Prop} {m : List Nat} {o : Ob}

/-- What a call sees of a cell. -/
theorem R.downC (hloc : ∀ j id, m[j]? = some id → φ j = f id) (hk : Keeps w own w own1) {v : Value} {x : AV} (hobj : ∀ id ∈ idsC x, ∀ z xs, o id = some (.arr z xs) → ObjAt w f own id (.arr z xs))
    (hfree : ∀ id ∈ idsC x, id ∉ m → ∀ ob, o id = some ob → ∀ l g, f id = some l → l.blk = some g → ¬ own1 g) (h : R w f own v x) : R w φ own1 v (downC m o x) := by
  have pureCase : ∀ c : AV, R w f own v c → c.pure = true → R w φ own1 v c := fun c h hp => (h.mono f.le_refl hk).pure φ hp
  cases x with
  | own id =>
    simp only [K.downC]
    cases hi : idx m id with
    | some j =>
      have hj := hloc j id (idx_some hi)
      cases h with
      | own0 _ z h' => exact .own0 j z (by rw [hj]; exact h')
      | own _ g cap z n h' => exact .own j g cap z n (by rw [hj]; exact h')
    | none =>
      simp only
      split
      · rename_i z xs ho
        exact R.of_arr (hobj id (by simp [idsC]) z xs ho) hk (hfree id (by simp [idsC]) (idx_none hi) _ ho) h
      · exact .any _
  | ref id lo len =>
    simp only [K.downC]
    cases hi : idx m id with
    | some j =>
      have hj := hloc j id (idx_some hi)
      cases h with
      | ref0 _ z h' => exact .ref0 j z (by rw [hj]; exact h')
      | ref _ _ _ g cap z n ad h' hl hb => exact .ref j lo len g cap z n ad (by rw [hj]; exact h') hl hb
    | none =>
      simp only
      split
      · rename_i z xs ho
        exact R.of_ref (hobj id (by simp [idsC]) z xs ho) hk (hfree id (by simp [idsC]) (idx_none hi) _ ho) h
      · exact .any _
  | ptr id off =>
    simp only [K.downC]
    cases hi : idx m id with
    | some j =>
      have hj := hloc j id (idx_some hi)
      cases h with
      | ptr _ _ g cap z n h' => exact .ptr j off g cap z n (by rw [hj]; exact h')
    | none => exact .any _
  | ep id n off =>
    simp only [K.downC]
    cases hi : idx m id with
    | some j =>
      have hj := hloc j id (idx_some hi)
      cases h with
      | ep _ _ _ g cap z n' h' => exact .ep j n off g cap z n' (by rw [hj]; exact h')
    | none => exact .any _
  | agg cs => exact .any _
  | tup vs => exact .any _
  | fn g a c => exact .any _
  | ifc t u => exact .any _
  | _ => exact pureCase _ h rfl

theorem R.downB (hloc : ∀ j id, m[j]? = some id → φ j = f id) (hk : Keeps w own w own1) {v : Value} {x : AV} (hobj : ∀ id ∈ idsB o x, ∀ ob, o id = some ob → ObjAt w f own id ob)
    (hfree : ∀ id ∈ idsB o x, id ∉ m → ∀ ob, o id = some ob → ∀ l g, f id = some l → l.blk = some g → ¬ own1 g) (h : R w f own v x) : R w φ own1 v (downB m o x) := by
  have hC : ∀ c : AV, R w f own v c → (∀ id ∈ idsC c, id ∈ idsB o x) → R w φ own1 v (K.downC m o c) := fun c hc hid =>
    R.downC hloc hk (fun id hi z xs ho => hobj id (hid id hi) _ ho) (fun id hi => hfree id (hid id hi)) hc
  cases x with
  | ptr id off =>
    simp only [K.downB]
    cases hi : idx m id with
    | some j =>
      have hj := hloc j id (idx_some hi)
      cases h with
      | ptr _ _ g cap z n h' => exact .ptr j off g cap z n (by rw [hj]; exact h')
    | none =>
      simp only
      cases ho : o id with
      | none => exact .any _
      | some ob =>
        cases ob with
        | arr z xs => exact .any _
        | box cs =>
          simp only
          cases hb : (cs.drop off).all fun c => (K.downC m o c).pure with
          | false => exact .any _
          | true =>
            simp only [cond_true]
            have hid : id ∈ idsB o (.ptr id off) := by simp [idsB, ho]
            have hcs : ∀ c ∈ cs, ∀ q ∈ idsC c, q ∈ idsB o (.ptr id off) := fun c hc q hq => by simp only [idsB, ho]; exact List.mem_cons_of_mem _ (List.mem_flatMap.2 ⟨c, hc, hq⟩)
            obtain ⟨g, cur, e, h1, h2, h3, h4⟩ := hobj id hid _ ho
            cases h with
            | ptr _ _ g' cap z n h' =>
              rw [h1] at h'; cases h'
              have hl : ∀ k, k < (cs.drop off).length → off + k < cur.size := fun k hk => by rw [List.length_drop] at hk; omega
              refine .rp _ _ (fun k => (cur[off + k]?).getD Go.undef) (fun c hc => ?_) (fun k hk' => ⟨hfree id hid (idx_none hi) _ ho _ g h1 rfl, ?_⟩) (fun k c hc => ?_)
              · obtain ⟨c', hc', rfl⟩ := List.mem_map.1 hc
                exact List.all_eq_true.1 hb c' hc'
              · rw [List.length_map] at hk'
                rw [add_mk, cell_mk h2, Array.getElem?_eq_getElem (hl k hk')]; rfl
              · rw [List.getElem?_map] at hc
                cases hq : (cs.drop off)[k]? with
                | none => rw [hq] at hc; cases hc
                | some c' =>
                  rw [hq] at hc; cases hc
                  have hlt := hl k (List.getElem?_eq_some_iff.1 hq).1
                  rw [List.getElem?_drop] at hq
                  have hu : cur[off + k]? = some cur[off + k] := Array.getElem?_eq_getElem hlt
                  simp only [hu, Option.getD_some]
                  exact R.downC hloc hk (fun q hq' z xs ho' => hobj q (hcs c' (List.mem_of_getElem? hq) q hq') _ ho') (fun q hq' => hfree q (hcs c' (List.mem_of_getElem? hq) q hq')) (h4 _ c' _ hq hu)
  | _ => exact hC _ h fun _ h => h

theorem R.down (hloc : ∀ j id, m[j]? = some id → φ j = f id) (hk : Keeps w own w own1) {v : Value} {x : AV} (hobj : ∀ id ∈ ids o x, ∀ ob, o id = some ob → ObjAt w f own id ob)
    (hfree : ∀ id ∈ ids o x, id ∉ m → ∀ ob, o id = some ob → ∀ l g, f id = some l → l.blk = some g → ¬ own1 g) (h : R w f own v x) : R w φ own1 v (down m o x) := by
  have hB : ∀ (u : Value) (c : AV), R w f own u c → (∀ id ∈ idsB o c, id ∈ ids o x) → R w φ own1 u (K.downB m o c) := fun u c hc hid =>
    R.downB hloc hk (fun id hi ob ho => hobj id (hid id hi) _ ho) (fun id hi => hfree id (hid id hi)) hc
  have hL : ∀ (us : List Value) (cs : List AV), us.length = cs.length → (∀ (k : Nat) u c, us[k]? = some u → cs[k]? = some c → R w f own u c) → (∀ c ∈ cs, ∀ id ∈ idsB o c, id ∈ ids o x) →
      us.length = (cs.map (K.downB m o)).length ∧ ∀ (k : Nat) u c, us[k]? = some u → (cs.map (K.downB m o))[k]? = some c → R w φ own1 u c := by
    intro us cs hl hR hid
    refine ⟨by simpa using hl, fun k u c hu hc => ?_⟩
    rw [List.getElem?_map] at hc
    cases hq : cs[k]? with
    | none => rw [hq] at hc; cases hc
    | some c' => rw [hq] at hc; cases hc; exact hB u c' (hR k u c' hu hq) (hid c' (List.mem_of_getElem? hq))
  cases x with
  | agg cs =>
    cases h with
    | agg us _ hl hR =>
      obtain ⟨h1, h2⟩ := hL us cs hl hR fun c hc id hid => by simp only [ids]; exact List.mem_flatMap.2 ⟨c, hc, hid⟩
      exact .agg _ _ h1 h2
  | fn g fs cs =>
    cases h with
    | fn _ us vs _ _ hl hm hR hS =>
      obtain ⟨h1, h2⟩ := hL us fs hl hR fun c hc id hid => by simp only [ids]; exact List.mem_append_left _ (List.mem_flatMap.2 ⟨c, hc, hid⟩)
      obtain ⟨h3, h4⟩ := hL vs cs hm hS fun c hc id hid => by simp only [ids]; exact List.mem_append_right _ (List.mem_flatMap.2 ⟨c, hc, hid⟩)
      exact .fn _ _ _ _ _ h1 h3 h2 h4
  | _ => exact hB v _ h fun _ h => h

/-- What is handed back, with new objects to be turned no more. -/
theorem R.frzC {n : Nat} {co' : List (Option AObj)} {E E2 : Nat → Prop} (hk : Keeps w E w E2)
    (hobj : ∀ j z xs, n ≤ j → (co'[j]?).join = some (.arr z xs) → ObjAt w φ E j (.arr z xs) ∧ ∀ l g, φ j = some l → l.blk = some g → ¬ E2 g) {v : Value} {x : AV} (h : R w φ E v x) :
    R w φ E2 v (frzC n co' x) := by
  have hm := h.mono φ.le_refl hk
  cases x with
  | own j =>
    simp only [K.frzC]
    cases hb : Nat.ble n j with
    | false => exact hm
    | true =>
      simp only [cond_true]
      split
      · rename_i z xs ho
        obtain ⟨h1, h2⟩ := hobj j z xs (Nat.le_of_ble_eq_true hb) ho
        exact R.of_arr h1 hk h2 h
      · exact .any _
  | ref j lo len => simp only [K.frzC]; cases Nat.ble n j <;> first | exact hm | exact .any _
  | ptr j off => simp only [K.frzC]; cases Nat.ble n j <;> first | exact hm | exact .any _
  | ep j q off => simp only [K.frzC]; cases Nat.ble n j <;> first | exact hm | exact .any _
  | fn _ _ _ => exact .any _
  | agg _ => exact .any _
  | tup _ => exact .any _
  | ifc t u => simp only [K.frzC]; cases u.pure <;> first | exact hm | exact .any _
  | _ => exact hm

/-- The caller's names. -/
theorem R.upC {b : Nat} {f' : Phi} {E own' : Nat → Prop} (hloc : ∀ j l, φ j = some l → f' (upN m b j) = some l) (hk : Keeps w E w own') {v : Value} {x : AV} (h : R w φ E v x) : R w f' own' v (upC m b x) := by
  have pureCase : ∀ c : AV, R w φ E v c → c.pure = true → R w f' own' v c := fun c h hp => (h.mono φ.le_refl hk).pure f' hp
  cases x with
  | own j => cases h with
    | own0 _ z h' => exact .own0 _ z (hloc _ _ h')
    | own _ g cap z n h' => exact .own _ g cap z n (hloc _ _ h')
  | ref j lo len => cases h with
    | ref0 _ z h' => exact .ref0 _ z (hloc _ _ h')
    | ref _ _ _ g cap z n ad h' hl hb => exact .ref _ lo len g cap z n ad (hloc _ _ h') hl hb
  | ptr j off => cases h with
    | ptr _ _ g cap z n h' => exact .ptr _ off g cap z n (hloc _ _ h')
  | ep j q off => cases h with
    | ep _ _ _ g cap z n' h' => exact .ep _ q off g cap z n' (hloc _ _ h')
  | agg cs => exact .any _
  | tup vs => exact .any _
  | fn g a c => exact .any _
  | ifc t u =>
    simp only [K.upC]
    cases hp : u.pure with
    | false => exact .any _
    | true => cases h with
      | ifc _ uv _ h' => exact .ifc t uv u ((h'.mono φ.le_refl hk).pure f' hp)
  | _ => exact pureCase _ h rfl

/-- Functions on cells, on what holds cells. -/
theorem R.lift {E E2 : Nat → Prop} {f' : Phi} (F : AV → AV) (hF : ∀ v c, R w φ E v c → R w f' E2 v (F c)) {v : Value} {cs : List AV} (h : R w φ E v (.agg cs)) : R w f' E2 v (.agg (cs.map F)) := by
  cases h with
  | agg us _ hl hR =>
    refine .agg _ _ (by simpa using hl) fun k u c hu hc => ?_
    rw [List.getElem?_map] at hc
    cases hq : cs[k]? with
    | none => rw [hq] at hc; cases hc
    | some c' => rw [hq] at hc; cases hc; exact hF u c' (hR k u c' hu hq)

theorem R.liftT {E E2 : Nat → Prop} {f' : Phi} (F : AV → AV) (hF : ∀ v c, R w φ E v c → R w f' E2 v (F c)) {v : Value} {cs : List AV} (h : R w φ E v (.tup cs)) : R w f' E2 v (.tup (cs.map F)) := by
  cases h with
  | tup us _ hl hR =>
    refine .tup _ _ (by simpa using hl) fun k u c hu hc => ?_
    rw [List.getElem?_map] at hc
    cases hq : cs[k]? with
    | none => rw [hq] at hc; cases hc
    | some c' => rw [hq] at hc; cases hc; exact hF u c' (hR k u c' hu hq)
end

end Go.Proofs.YtbknlijpkabcnaaGreat.K
