/- A state taken for another one. No condition. -/
import Derived.Test.YtbknlijpkabcnaaGreatK20
namespace Go.Proofs.YtbknlijpkabcnaaGreat.K
open Go

/-- One object, against one that is aimed at. -/
def passOb (m : List Src) (o : Ob) (s : Src) : AObj → Prop
  | .box ds => match s with
    | .id n => match o n with
      | some (.box cs) => leL m o cs ds
      | _ => False
    | _ => False
  | .arr z' ys => match s with
    | .id n => match o n with
      | some (.arr z xs) => bif Nat.beq z z' then xs = ys else False
      | _ => False
    | .pre n k => match o n with
      | some (.arr z xs) => bif Nat.beq z z' then k ≤ xs.length ∧ xs.take k = ys else False
      | _ => False
    | .nl => bif Nat.blt 0 z' then ys = [] else False
    | .no => False

theorem passO_get {m : List Src} {o : Ob} : ∀ {ss : List Src} {obs : List (Option AObj)}, passO m o ss obs → ss.length = obs.length ∧ ∀ (j : Nat) s ob, ss[j]? = some s → obs[j]? = some (some ob) → passOb m o s ob
  | [], [], _ => ⟨rfl, fun j s ob h => by simp at h⟩
  | [], _ :: _, h => h.elim
  | _ :: _, [], h => h.elim
  | s :: ss, ob :: obs, h => by
    unfold passO at h
    obtain ⟨h1, h2⟩ := h
    obtain ⟨h3, h4⟩ := passO_get h2
    refine ⟨by simp [h3], fun j s' ob' hs ho => ?_⟩
    match j with
    | 0 =>
      simp only [List.getElem?_cons_zero, Option.some.injEq] at hs ho
      subst hs; subst ho
      cases ob' <;> exact h1
    | j + 1 => exact h4 j s' ob' (by simpa using hs) (by simpa using ho)

theorem keepB_get : ∀ (c j : Nat) (m : List Src), keepB j c m = true → ∀ i, i < c → m[i]? = some (.id (j + i))
  | 0, _, _, _, i, hi => by omega
  | c + 1, j, [], h, _, _ => by simp [keepB] at h
  | c + 1, j, s :: ss, h, i, hi => by
    unfold keepB at h
    rw [Bool.and_eq_true] at h
    match i with
    | 0 =>
      cases s with
      | id n => have := Nat.eq_of_beq_eq_true h.1; subst this; rfl
      | _ => simp at h
    | i + 1 =>
      have := keepB_get c (j + 1) ss h.2 i (by omega)
      simp only [List.getElem?_cons_succ, this]
      congr 2; omega

theorem nodupB_spec : ∀ {l : List Nat}, nodupB l = true → l.Nodup
  | [], _ => List.nodup_nil
  | n :: l, h => by
    unfold nodupB at h
    rw [Bool.and_eq_true, Bool.not_eq_true'] at h
    refine List.nodup_cons.2 ⟨fun hn => ?_, nodupB_spec h.2⟩
    rw [hasN_iff.2 hn] at h; simp at h

theorem liveIds_inj : ∀ {ss : List Src} {obs : List (Option AObj)}, (liveIds ss obs).Nodup → ∀ (j j' : Nat) s s' ob ob' n, ss[j]? = some s → ss[j']? = some s' → obs[j]? = some (some ob) → obs[j']? = some (some ob') →
    n ∈ s.ids → n ∈ s'.ids → j = j'
  | [], _, _, j, _, _, _, _, _, _, h, _, _, _, _, _ => by simp at h
  | _ :: _, [], _, j, _, _, _, _, _, _, _, _, h, _, _, _ => by simp at h
  | s :: ss, none :: obs, hn, j, j', t, t', ob, ob', n, h1, h2, h3, h4, h5, h6 => by
    match j, j' with
    | 0, _ => simp at h3
    | _ + 1, 0 => simp at h4
    | j + 1, j' + 1 => rw [liveIds_inj (ss := ss) (obs := obs) (by simpa [liveIds] using hn) j j' t t' ob ob' n (by simpa using h1) (by simpa using h2) (by simpa using h3) (by simpa using h4) h5 h6]
  | s :: ss, some x :: obs, hn, j, j', t, t', ob, ob', n, h1, h2, h3, h4, h5, h6 => by
    have mem : ∀ {ss : List Src} {obs : List (Option AObj)} {j : Nat} {t : Src} {ob : AObj}, ss[j]? = some t → obs[j]? = some (some ob) → n ∈ t.ids → n ∈ liveIds ss obs := by
      intro ss
      induction ss with
      | nil => intro obs j t ob h; simp at h
      | cons s ss ih =>
        intro obs j t ob h h' hm
        cases obs with
        | nil => simp at h'
        | cons y obs =>
          match j with
          | 0 =>
            simp only [List.getElem?_cons_zero, Option.some.injEq] at h h'
            subst h; subst h'
            simp [liveIds, hm]
          | j + 1 =>
            have := ih (obs := obs) (by simpa using h) (by simpa using h') hm
            cases y <;> simp [liveIds, this]
    simp only [liveIds] at hn
    rw [List.nodup_append] at hn
    match j, j' with
    | 0, 0 => rfl
    | 0, j' + 1 =>
      exfalso
      simp only [List.getElem?_cons_zero, Option.some.injEq] at h1
      subst h1
      exact hn.2.2 n h5 n (mem (by simpa using h2) (by simpa using h4) h6) rfl
    | j + 1, 0 =>
      exfalso
      simp only [List.getElem?_cons_zero, Option.some.injEq] at h2
      subst h2
      exact hn.2.2 n h6 n (mem (by simpa using h1) (by simpa using h3) h5) rfl
    | j + 1, j' + 1 => rw [liveIds_inj (ss := ss) (obs := obs) hn.2.1 j j' t t' ob ob' n (by simpa using h1) (by simpa using h2) (by simpa using h3) (by simpa using h4) h5 h6]

/-- The places behind it. -/
def passLoc (ol : List (Option AObj)) (f : Phi) (j : Nat) : Src → Option Loc
  | .id n => f n
  | .pre n k => (f n).map fun l => ⟨l.blk, l.cap, l.z, k⟩
  | .nl => match (ol[j]?).join with
    | some (.arr z _) => some ⟨none, 0, z, 0⟩
    | _ => some ⟨none, 0, 0, 0⟩
  | .no => none

def passPhi (m : List Src) (ol : List (Option AObj)) (f : Phi) : Phi := ⟨fun j => passLoc ol f j (srcOf m j), f.x⟩

section
variable {f : Phi} {st : St} {a : Act} {w : World} {m : List Src} {ol : List (Option AObj)}

theorem beq_ite {a b : Nat} {p : Prop} (h : bif Nat.beq a b then p else False) : a = b ∧ p := by
  cases hb : Nat.beq a b with
  | true => rw [hb] at h; exact ⟨Nat.eq_of_beq_eq_true hb, h⟩
  | false => rw [hb] at h; exact h.elim

theorem bool_ite {b : Bool} {p : Prop} (h : bif b then p else False) : b = true ∧ p := by
  cases b with
  | true => exact ⟨rfl, h⟩
  | false => exact h.elim

theorem R.leC {own' : Nat → Prop} (hat : ∀ id ob, st.o id = some ob → ObjAt w f (owns f st.o) id ob) (hk : Keeps w (owns f st.o) w own')
    (hfree : ∀ n ob, st.o n = some ob → hasN n (m.flatMap Src.ids) = false → ∀ l g, f n = some l → l.blk = some g → ¬ own' g) {v : Value} {x y : AV} (h : R w f (owns f st.o) v x) (hl : leC m st.o x y) :
    R w (passPhi m ol f) own' v y := by
  have pureCase : ∀ c : AV, R w f (owns f st.o) v c → c.pure = true → R w (passPhi m ol f) own' v c := fun c h hp => (h.mono f.le_refl hk).pure _ hp
  have hid : ∀ j n, srcOf m j = .id n → passPhi m ol f j = f n := fun j n hj => by show passLoc ol f j (srcOf m j) = _; rw [hj]; rfl
  unfold K.leC at hl
  cases y with
  | any => exact .any _
  | b c =>
    cases x <;> simp only at hl
    · subst hl; exact pureCase _ h rfl
    · obtain ⟨d, rfl, h2⟩ := h.p_inv
      have : d = c := by cases d <;> cases c <;> simp_all
      subst this; exact .b _
  | p q =>
    cases x <;> simp only at hl
    · rw [h.b_inv]; exact .p _ _ hl
    · obtain ⟨d, rfl, h2⟩ := h.p_inv; exact .p _ _ (h2.trans hl)
  | i k n =>
    cases x <;> simp only at hl
    unfold kk at hl
    split at hl
    · rename_i hkk; subst hkk; subst hl; exact pureCase _ h rfl
    · exact hl.elim
  | s t => cases x <;> simp only at hl; subst hl; exact pureCase _ h rfl
  | nil => cases x <;> simp only at hl; exact pureCase _ h rfl
  | e0 =>
    cases x <;> simp only at hl
    · rw [h.nil_inv]; exact .e0 _
    · exact pureCase _ h rfl
  | np => cases x <;> simp only at hl; exact pureCase _ h rfl
  | ni => cases x <;> simp only at hl; exact pureCase _ h rfl
  | rp ds => cases x <;> simp only at hl; subst hl; exact pureCase _ h rfl
  | ifc t u =>
    cases x <;> simp only at hl
    obtain ⟨h1, h2⟩ := bool_ite hl
    rw [Bool.and_eq_true] at h1
    have := Nat.eq_of_beq_eq_true h1.1
    subst this; subst h2
    cases h with
    | ifc _ uv _ h' => exact .ifc _ uv _ ((h'.mono f.le_refl hk).pure _ h1.2)
  | agg _ => exact hl.elim
  | tup _ => exact hl.elim
  | fn _ _ _ => exact hl.elim
  | sl z ys =>
    have none0 : ∀ ad, 0 < z → R w (passPhi m ol f) own' (.slice ad 0 0) (.sl z []) := fun ad hz =>
      .sl ad z 0 [] (fun _ => Go.undef) hz (Nat.le_refl _) (Nat.zero_le _) (fun x hx => by simp at hx) (fun x hx => by simp at hx) (fun k hk => by simp at hk) (fun j q x c hj => by simp at hj)
    cases x <;> simp only at hl
    case nil => obtain ⟨h1, h2⟩ := bool_ite hl; subst h2; rw [h.nil_inv]; exact none0 none (Nat.le_of_ble_eq_true h1)
    case e0 => obtain ⟨h1, h2⟩ := bool_ite hl; subst h2; cases h; exact none0 _ (Nat.le_of_ble_eq_true h1)
    case sl z' xs => obtain ⟨h1, h2⟩ := beq_ite hl; subst h1; subst h2; exact pureCase _ h rfl
    case own n =>
      split at hl
      · rename_i z' xs ho
        obtain ⟨h1, h2⟩ := bool_ite hl
        rw [Bool.and_eq_true, Bool.not_eq_true'] at h1
        have := Nat.eq_of_beq_eq_true h1.1
        subst this; subst h2
        exact R.of_arr (hat n _ ho) hk (hfree n _ ho h1.2) h
      · exact hl.elim
    case ref n lo len =>
      split at hl
      · rename_i z' xs ho
        obtain ⟨h1, h2⟩ := bool_ite hl
        rw [Bool.and_eq_true, Bool.not_eq_true'] at h1
        have := Nat.eq_of_beq_eq_true h1.1
        subst this; subst h2
        exact R.of_ref (hat n _ ho) hk (hfree n _ ho h1.2) h
      · exact hl.elim
  | own j =>
    cases x <;> simp only at hl
    case nil =>
      split at hl
      · rename_i hj
        have : ∃ z, passPhi m ol f j = some ⟨none, 0, z, 0⟩ := by
          show ∃ z, passLoc ol f j (srcOf m j) = _
          rw [hj]
          simp only [passLoc]
          split
          · exact ⟨_, rfl⟩
          · exact ⟨_, rfl⟩
        obtain ⟨z, hz⟩ := this
        rw [h.nil_inv]; exact .own0 j z hz
      · exact hl.elim
    case own n =>
      split at hl
      · rename_i n' hj
        obtain ⟨h1, _⟩ := beq_ite hl
        subst h1
        have := hid j _ hj
        cases h with
        | own0 _ z h' => exact .own0 j z (by rw [this]; exact h')
        | own _ g cap z k h' => exact .own j g cap z k (by rw [this]; exact h')
      · exact hl.elim
    case ref n lo len =>
      split at hl
      · rename_i n' k hj
        obtain ⟨h1, h2⟩ := bool_ite hl
        rw [Bool.and_eq_true] at h1
        have e1 := Nat.eq_of_beq_eq_true h1.1
        have e2 := Nat.eq_of_beq_eq_true h1.2
        subst e1; subst e2; subst h2
        have hp : passPhi m ol f j = (f n').map fun l => ⟨l.blk, l.cap, l.z, len⟩ := by
          show passLoc ol f j (srcOf m j) = _
          rw [hj]; rfl
        cases h with
        | ref0 _ z h' => exact .own0 j z (by rw [hp, h']; rfl)
        | ref _ _ _ g cap z k ad h' hl hb =>
          have := hb (.inr rfl)
          subst this
          have hh : R w (passPhi m ol f) own' (.slice (some ⟨g, 0, none⟩) len cap) (.own j) := .own j g cap z len (by rw [hp, h']; rfl)
          simpa using hh
      · exact hl.elim
  | ref j lo' len' =>
    cases x <;> simp only at hl
    split at hl
    · rename_i n' hj
      obtain ⟨h1, h2, h3⟩ := beq_ite hl
      subst h1; subst h2; subst h3
      have := hid j _ hj
      cases h with
      | ref0 _ z h' => exact .ref0 j z (by rw [this]; exact h')
      | ref _ _ _ g cap z k ad h' hl hb => exact .ref j _ _ g cap z k ad (by rw [this]; exact h') hl hb
    · exact hl.elim
  | ptr j off' =>
    cases x <;> simp only at hl
    split at hl
    · rename_i n' hj
      obtain ⟨h1, _⟩ := bool_ite hl
      rw [Bool.and_eq_true] at h1
      have e1 := Nat.eq_of_beq_eq_true h1.1
      have e2 := Nat.eq_of_beq_eq_true h1.2
      subst e1; subst e2
      have := hid j _ hj
      cases h with
      | ptr _ _ g cap z k h' => exact .ptr j _ g cap z k (by rw [this]; exact h')
    · exact hl.elim
  | ep j i' off' =>
    cases x <;> simp only at hl
    split at hl
    · rename_i n' hj
      obtain ⟨h1, h2⟩ := bool_ite hl
      rw [Bool.and_eq_true] at h1
      have e1 := Nat.eq_of_beq_eq_true h1.1
      have e2 := Nat.eq_of_beq_eq_true h1.2
      subst e1; subst e2; subst h2
      have := hid j _ hj
      cases h with
      | ep _ _ _ g cap z k h' => exact .ep j _ _ g cap z k (by rw [this]; exact h')
    · exact hl.elim

theorem leL_get {m : List Src} {o : Ob} : ∀ {xs ys : List AV}, leL m o xs ys → xs.length = ys.length ∧ ∀ (k : Nat) x y, xs[k]? = some x → ys[k]? = some y → leC m o x y
  | [], [], _ => ⟨rfl, fun k x y h => by simp at h⟩
  | [], _ :: _, h => h.elim
  | _ :: _, [], h => h.elim
  | x :: xs, y :: ys, h => by
    obtain ⟨h3, h4⟩ := leL_get h.2
    refine ⟨by simp [h3], fun k a b ha hb => ?_⟩
    match k with
    | 0 =>
      simp only [List.getElem?_cons_zero, Option.some.injEq] at ha hb
      subst ha; subst hb; exact h.1
    | k + 1 => exact h4 k a b (by simpa using ha) (by simpa using hb)

theorem leT_get {m : List Src} {o : Ob} : ∀ {xs ys : List AV}, leT m o xs ys → xs.length = ys.length ∧ ∀ (k : Nat) x y, xs[k]? = some x → ys[k]? = some y → leA m o x y
  | [], [], _ => ⟨rfl, fun k x y h => by simp at h⟩
  | [], _ :: _, h => h.elim
  | _ :: _, [], h => h.elim
  | x :: xs, y :: ys, h => by
    obtain ⟨h3, h4⟩ := leT_get h.2
    refine ⟨by simp [h3], fun k a b ha hb => ?_⟩
    match k with
    | 0 =>
      simp only [List.getElem?_cons_zero, Option.some.injEq] at ha hb
      subst ha; subst hb; exact h.1
    | k + 1 => exact h4 k a b (by simpa using ha) (by simpa using hb)

theorem R.leA {own' : Nat → Prop} (hat : ∀ id ob, st.o id = some ob → ObjAt w f (owns f st.o) id ob) (hk : Keeps w (owns f st.o) w own')
    (hfree : ∀ n ob, st.o n = some ob → hasN n (m.flatMap Src.ids) = false → ∀ l g, f n = some l → l.blk = some g → ¬ own' g) {v : Value} {x y : AV} (h : R w f (owns f st.o) v x) (hl : leA m st.o x y) :
    R w (passPhi m ol f) own' v y := by
  unfold K.leA at hl
  split at hl
  · rename_i ds
    split at hl
    · rename_i cs
      obtain ⟨h1, h2⟩ := leL_get hl
      cases h with
      | agg us _ hlen hR =>
        refine .agg _ _ (by omega) fun k u d hu hd => ?_
        have hk' : k < cs.length := by rw [h1]; exact (List.getElem?_eq_some_iff.1 hd).1
        exact (hR k u cs[k] hu (List.getElem?_eq_getElem hk')).leC hat hk hfree (h2 k _ d (List.getElem?_eq_getElem hk') hd)
    · exact hl.elim
  · split at hl
    · cases h with
      | tup us _ hlen hR => exact .tup _ _ hlen fun k u d hu hd => by simp at hd
    · exact hl.elim
  · split at hl
    · obtain ⟨hp, hl⟩ := bool_ite hl
      obtain ⟨rfl, rfl, rfl⟩ := hl
      rw [Bool.and_eq_true] at hp
      cases h with
      | fn _ us vs _ _ h1 h2 hR hS =>
        exact .fn _ _ _ _ _ h1 h2 (fun k u d hu hd => ((hR k u d hu hd).pure _ (List.all_eq_true.1 hp.1 d (List.mem_of_getElem? hd))).mono (Phi.le_refl _) hk)
          (fun k u d hu hd => ((hS k u d hu hd).pure _ (List.all_eq_true.1 hp.2 d (List.mem_of_getElem? hd))).mono (Phi.le_refl _) hk)
    · exact hl.elim
  · exact h.leC hat hk hfree hl

theorem R.leV {own' : Nat → Prop} (hat : ∀ id ob, st.o id = some ob → ObjAt w f (owns f st.o) id ob) (hk : Keeps w (owns f st.o) w own')
    (hfree : ∀ n ob, st.o n = some ob → hasN n (m.flatMap Src.ids) = false → ∀ l g, f n = some l → l.blk = some g → ¬ own' g) {v : Value} {x y : AV} (h : R w f (owns f st.o) v x) (hl : leV m st.o x y) :
    R w (passPhi m ol f) own' v y := by
  unfold K.leV at hl
  split at hl
  · rename_i d ds
    split at hl
    · rename_i cs
      obtain ⟨h1, h2⟩ := leT_get hl
      cases h with
      | tup us _ hlen hR =>
        refine .tup _ _ (by omega) fun k u d hu hd => ?_
        have hk' : k < cs.length := by rw [h1]; exact (List.getElem?_eq_some_iff.1 hd).1
        exact (hR k u cs[k] hu (List.getElem?_eq_getElem hk')).leA hat hk hfree (h2 k _ d (List.getElem?_eq_getElem hk') hd)
    · exact hl.elim
  · exact h.leA hat hk hfree hl

/-- The objects behind it. -/
theorem pass_objs (hr : Rel f st a w) (hn : nodupB (liveIds m ol) = true) (hp : passO m st.o m ol) :
    ORel (passPhi m ol f) (fun j => (ol[j]?).join) w ∧ (∀ g, live (passPhi m ol f) (fun j => (ol[j]?).join) g → live f st.o g) ∧ (∀ j, ol.length ≤ j → passPhi m ol f j = none) ∧
      Keeps w (owns f st.o) w (owns (passPhi m ol f) fun j => (ol[j]?).join) ∧
      (∀ n ob, st.o n = some ob → hasN n (m.flatMap Src.ids) = false → ∀ l g, f n = some l → l.blk = some g → ¬ owns (passPhi m ol f) (fun j => (ol[j]?).join) g) := by
  obtain ⟨hlen, hget⟩ := passO_get hp
  have hsrc : ∀ j s, m[j]? = some s → srcOf m j = s := fun j s hj => by unfold srcOf; rw [hj]
  have hsome : ∀ (j : Nat) ob, (ol[j]?).join = some ob → ol[j]? = some (some ob) := fun j ob hj => by
    cases hq : ol[j]? with
    | none => rw [hq] at hj; cases hj
    | some x => rw [hq] at hj; simp at hj; rw [hj]
  -- where an object comes from
  have hfrom : ∀ (j : Nat) ob l g, (ol[j]?).join = some ob → passPhi m ol f j = some l → l.blk = some g → ∃ s n ob' l', m[j]? = some s ∧ n ∈ s.ids ∧ st.o n = some ob' ∧ f n = some l' ∧ l'.blk = some g := by
    intro j ob l g hj hl hg
    have hj' := hsome j ob hj
    have hjl : j < m.length := by rw [hlen]; exact (List.getElem?_eq_some_iff.1 hj').1
    have hm : m[j]? = some m[j] := List.getElem?_eq_getElem hjl
    have hob := hget j _ ob hm hj'
    have hph : passPhi m ol f j = passLoc ol f j (m[j]) := by
      show passLoc ol f j (srcOf m j) = _
      rw [hsrc j _ hm]
    refine ⟨m[j], ?_⟩
    cases hs : m[j] with
    | no => rw [hs] at hob; cases ob <;> exact hob.elim
    | nl =>
      rw [hs] at hph
      simp only [passLoc] at hph
      rw [hph] at hl
      split at hl <;> (cases hl; cases hg)
    | id n =>
      rw [hs] at hph hob
      simp only [passLoc] at hph
      refine ⟨n, ?_⟩
      cases ho : st.o n with
      | none => cases ob <;> (simp only [passOb, ho] at hob)
      | some ob' => exact ⟨ob', l, by rw [hm, hs], by simp [Src.ids], rfl, by rw [← hph]; exact hl, hg⟩
    | pre n k =>
      rw [hs] at hph hob
      simp only [passLoc] at hph
      refine ⟨n, ?_⟩
      cases ho : st.o n with
      | none => cases ob <;> (simp only [passOb, ho] at hob)
      | some ob' =>
        rw [hph] at hl
        cases hfn : f n with
        | none => rw [hfn] at hl; cases hl
        | some l' => rw [hfn] at hl; cases hl; exact ⟨ob', l', by rw [hm, hs], by simp [Src.ids], rfl, rfl, hg⟩
  have hlive : ∀ g, live (passPhi m ol f) (fun j => (ol[j]?).join) g → live f st.o g := by
    rintro g ⟨j, ob, l, h1, h2, h3⟩
    obtain ⟨s, n, ob', l', _, _, h4, h5, h6⟩ := hfrom j ob l g h1 h2 h3
    exact ⟨n, ob', l', h4, h5, h6⟩
  have hown : ∀ g, owns (passPhi m ol f) (fun j => (ol[j]?).join) g → owns f st.o g := fun g hg => hg.elim (fun h => .inl (hlive g h)) .inr
  have hk := keeps_sub (w := w) hown
  have hfree : ∀ n ob, st.o n = some ob → hasN n (m.flatMap Src.ids) = false → ∀ l g, f n = some l → l.blk = some g → ¬ owns (passPhi m ol f) (fun j => (ol[j]?).join) g := by
    intro n ob hn2 hh l g hl hg hown
    rcases hown with ⟨j, ob2, l2, h1, h2, h3⟩ | hx
    · obtain ⟨s, n', ob', l', h4, h5, h6, h7, h8⟩ := hfrom j ob2 l2 g h1 h2 h3
      have := hr.o.inj n n' ob ob' l l' g hn2 h6 hl h7 hg h8
      subst this
      have : n ∈ m.flatMap Src.ids := List.mem_flatMap.2 ⟨s, List.mem_of_getElem? h4, h5⟩
      rw [hasN_iff.2 this] at hh; cases hh
    · exact hr.o.xd g ⟨n, ob, l, hn2, hl, hg⟩ hx
  refine ⟨⟨fun j ob hj => ?_, fun g hg hx => hr.o.xd g (hlive g hg) hx, fun j j' ob ob' l l' g h1 h2 h3 h4 h5 h6 => ?_⟩, hlive, fun j hj => ?_, hk, hfree⟩
  · have hj' := hsome j ob hj
    have hjl : j < m.length := by rw [hlen]; exact (List.getElem?_eq_some_iff.1 hj').1
    have hm : m[j]? = some m[j] := List.getElem?_eq_getElem hjl
    have hob := hget j _ ob hm hj'
    have hph : passPhi m ol f j = passLoc ol f j (m[j]) := by
      show passLoc ol f j (srcOf m j) = _
      rw [hsrc j _ hm]
    cases ob with
    | box ds =>
      simp only [passOb] at hob
      split at hob
      · rename_i n hs
        rw [hs] at hph
        simp only [passLoc] at hph
        split at hob
        · rename_i cs ho
          obtain ⟨h1, h2⟩ := leL_get hob
          obtain ⟨g, cur, e, a1, a2, a3, a4⟩ := hr.o.at_ n _ ho
          refine ⟨g, cur, e, by rw [hph]; exact a1, a2, by omega, fun k c v hc hv => ?_⟩
          have hk' : k < cs.length := by rw [h1]; exact (List.getElem?_eq_some_iff.1 hc).1
          exact (a4 k cs[k] v (List.getElem?_eq_getElem hk') hv).leC hr.o.at_ hk hfree (h2 k _ c (List.getElem?_eq_getElem hk') hc)
        · exact hob.elim
      · exact hob.elim
    | arr z ys =>
      simp only [passOb] at hob
      split at hob
      · rename_i n hs
        rw [hs] at hph
        simp only [passLoc] at hph
        split at hob
        · rename_i z' xs ho
          obtain ⟨h1, h2⟩ := beq_ite hob
          subst h1; subst h2
          exact (hr.o.at_ n _ ho).liftA hk fun l hl => by rw [hph]; exact hl
        · exact hob.elim
      · rename_i n k hs
        rw [hs] at hph
        simp only [passLoc] at hph
        split at hob
        · rename_i z' xs ho
          obtain ⟨h1, h2, h3⟩ := beq_ite hob
          subst h1; subst h3
          rcases hr.o.at_ n _ ho with ⟨h0, ⟨b1, b2⟩ | ⟨g, cap, cur, e, b1, b2, b3, b4, b5, b6, b7, b8⟩⟩
          · subst b2
            have : k = 0 := by simpa using h2
            subst this
            exact ⟨h0, .inl ⟨by rw [hph, b1]; rfl, by simp⟩⟩
          · refine ⟨h0, .inr ⟨g, cap, cur, e, by rw [hph, b1, List.length_take, Nat.min_eq_left h2]; rfl, b2, b3, by rw [List.length_take]; omega, b5, fun x hx => b6 x (List.mem_of_mem_take hx), fun x hx => b7 x (List.mem_of_mem_take hx), fun q i' x c hq hc => ?_⟩⟩
            rw [List.getElem?_take] at hq
            split at hq
            · obtain ⟨v, hv, hrv⟩ := b8 q i' x c hq hc
              exact ⟨v, hv, (hrv.mono f.le_refl hk).pure _ (AV.good.pure (b7 x (List.mem_of_getElem? hq) c (List.mem_of_getElem? hc)))⟩
            · cases hq
        · exact hob.elim
      · rename_i hs
        rw [hs] at hph
        simp only [passLoc, hj] at hph
        obtain ⟨h1, h2⟩ := bool_ite hob
        subst h2
        exact ⟨Nat.le_of_ble_eq_true h1, .inl ⟨hph, rfl⟩⟩
      · exact hob.elim
  · obtain ⟨s, n, o1, l1, a1, a2, a3, a4, a5⟩ := hfrom j ob l g h1 h3 h5
    obtain ⟨s', n', o2, l2, b1, b2, b3, b4, b5⟩ := hfrom j' ob' l' g h2 h4 h6
    have := hr.o.inj n n' o1 o2 l1 l2 g a3 b3 a4 b4 a5 b5
    subst this
    exact liveIds_inj (nodupB_spec hn) j j' s s' ob ob' n a1 b1 (hsome j ob h1) (hsome j' ob' h2) a2 b2
  · have : m[j]? = none := List.getElem?_eq_none (by omega)
    have hs : srcOf m j = .no := by unfold srcOf; rw [this]
    show passLoc ol f j (srcOf m j) = _
    rw [hs]; rfl

theorem passPhi_keep (hkp : keepB 0 st.c m = true) (j : Nat) (hj : j < st.c) : passPhi m ol f j = f j := by
  have := keepB_get st.c 0 m hkp j hj
  have hs : srcOf m j = .id j := by unfold srcOf; rw [this]; simp
  show passLoc ol f j (srcOf m j) = _
  rw [hs]; rfl

end

/-- A state taken for another one: what is read so is read so. -/
theorem pass_sound {f : Phi} {st : St} {a : Act} {w : World} {L : LS} (hr : Rel f st a w) (h : Pass st L) :
    ∃ f' : Phi, Rel f' (L.st st.nt st.c) a w ∧ (∀ j, j < st.c → f' j = f j) ∧ f'.x = f.x ∧ ∀ g, live f' (L.st st.nt st.c).o g → live f st.o g := by
  obtain ⟨m, h1, h2, h3⟩ := h
  rw [Bool.and_eq_true] at h1
  obtain ⟨hO, hlive, hnone, hk, hfree⟩ := pass_objs (ol := L.ol) hr h1.2 h2
  have hT : ∀ (l : List (Nat × AV)), passT m st l → ∀ n, R w (passPhi m L.ol f) (owns (passPhi m L.ol f) fun j => (L.ol[j]?).join) (a.tmps.getD n undef) (look n l) := by
    intro l
    induction l with
    | nil => intro _ n; exact .any _
    | cons kv l ih =>
      obtain ⟨k, v⟩ := kv
      intro hl n
      simp only [look]
      cases hb : Nat.beq k n with
      | true =>
        simp only [cond_true]
        rw [← Nat.eq_of_beq_eq_true hb]
        exact (hr.t k).leA hr.o.at_ hk hfree hl.1
      | false => exact ih hl.2 n
  refine ⟨passPhi m L.ol f, ⟨fun n => hT L.tl h3 n, hr.n, hr.d, hO, hr.xb, fun id hid _ => hnone id hid⟩, fun j hj => passPhi_keep h1.1 j hj, rfl, hlive⟩

end Go.Proofs.YtbknlijpkabcnaaGreat.K
