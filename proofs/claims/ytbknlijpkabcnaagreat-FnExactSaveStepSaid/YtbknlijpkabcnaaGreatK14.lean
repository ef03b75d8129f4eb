/- A call by a contract, in a caller's state. No condition. -/
import Derived.Test.YtbknlijpkabcnaaGreatK13
namespace Go.Proofs.YtbknlijpkabcnaaGreat.K
open Go

section
variable {P : Program} {T : Tab} {i nx : Nat} {op : Oper} {ρ : Operand → AV} {o : Ob} {K : Kont}

theorem wrs_keys (m0 : List Nat) (b0 : Nat) : ∀ (l : List (Option AObj)) (m : List Nat) (b : Nat) (x : Nat × Option AObj), x ∈ wrs m0 b0 m b l → x.1 ∈ m ∨ (b ≤ x.1 ∧ x.1 < b + l.length)
  | [], _, _, _, h => by simp [wrs] at h
  | y :: l, [], b, x, h => by
    simp only [wrs, List.mem_cons] at h
    rcases h with h | h
    · subst h; exact .inr ⟨Nat.le_refl _, by simp⟩
    · rcases wrs_keys m0 b0 l [] (b + 1) x h with h | h
      · simp at h
      · exact .inr (by simp; omega)
  | y :: l, k :: m, b, x, h => by
    simp only [wrs, List.mem_cons] at h
    rcases h with h | h
    · subst h; exact .inl (by simp)
    · rcases wrs_keys m0 b0 l m b x h with h | h
      · exact .inl (by simp [h])
      · exact .inr (by simp; omega)

theorem wrs_keys' (m0 : List Nat) (b0 : Nat) : ∀ (l : List (Option AObj)) (m : List Nat) (b : Nat) (x : Nat × Option AObj), x ∈ wrs m0 b0 m b l → x.1 ∈ m ∨ (b ≤ x.1 ∧ x.1 < b + (l.length - m.length))
  | [], _, _, _, h => by simp [wrs] at h
  | y :: l, [], b, x, h => by
    rcases wrs_keys m0 b0 (y :: l) [] b x h with h | h
    · exact .inl h
    · exact .inr (by simpa using h)
  | y :: l, k :: m, b, x, h => by
    simp only [wrs, List.mem_cons] at h
    rcases h with h | h
    · subst h; exact .inl (by simp)
    · rcases wrs_keys' m0 b0 l m b x h with h | h
      · exact .inl (by simp [h])
      · exact .inr (by simpa using h)

theorem join_some {l : List (Option AObj)} {j : Nat} {ob : AObj} (h : (l[j]?).join = some ob) : some ob ∈ l ∧ j < l.length := by
  cases hj : l[j]? with
  | none => rw [hj] at h; cases h
  | some x => rw [hj] at h; simp at h; subst h; exact ⟨List.mem_of_getElem? hj, (List.getElem?_eq_some_iff.1 hj).1⟩

theorem R.flatV {w : World} {φ : Phi} {own own' : Nat → Prop} {v : Value} {x : AV} (h : R w φ own v x) (hf : x.flatV = true) : R w φ own' v x := by
  have hl : ∀ cs : List AV, cs.all AV.flat = true → ∀ u, R w φ own u (.agg cs) → R w φ own' u (.agg cs) := by
    intro cs hcs u hu
    cases hu with
    | agg us _ hl hR => exact .agg _ _ hl fun k u c hu hc => (hR k u c hu hc).flat own' (List.all_eq_true.1 hcs c (List.mem_of_getElem? hc))
  cases x with
  | agg cs => exact hl cs hf v h
  | tup vs =>
    cases h with
    | tup us _ hlen hR =>
      refine .tup _ _ hlen fun k u c hu hc => ?_
      have h1 := hR k u c hu hc
      have h2 := List.all_eq_true.1 hf c (List.mem_of_getElem? hc)
      cases c with
      | agg cs => exact hl cs h2 u h1
      | _ => exact h1.flat own' h2
  | _ => exact h.flat own' hf

theorem ObjAt.flat {w : World} {φ : Phi} {own own' : Nat → Prop} {id : Nat} {ob : AObj} (h : ObjAt w φ own id ob) (hf : FlatO ob) : ObjAt w φ own' id ob := by
  cases ob with
  | box cs =>
    obtain ⟨g, cur, e, h1, h2, h3, h4⟩ := h
    exact ⟨g, cur, e, h1, h2, h3, fun k c v hc hv => (h4 k c v hc hv).flat own' (List.all_eq_true.1 hf c (List.mem_of_getElem? hc))⟩
  | arr z xs =>
    rcases h with ⟨h0, h | ⟨g, cap, cur, e, h1, h2, h3, h4, h5, h6, h7, h8⟩⟩
    · exact ⟨h0, .inl h⟩
    · refine ⟨h0, .inr ⟨g, cap, cur, e, h1, h2, h3, h4, h5, h6, h7, fun j q x c hj hc => ?_⟩⟩
      obtain ⟨v, hv, hr⟩ := h8 j q x c hj hc
      exact ⟨v, hv, hr.flat own' (hf x (List.mem_of_getElem? hj) c (List.mem_of_getElem? hc))⟩

/-- An object whose cells are read by a function. -/
theorem ObjAt.liftB {w : World} {φ f' : Phi} {E E2 : Nat → Prop} {id id' : Nat} (F : AV → AV) {cs : List AV} (hF : ∀ v, ∀ c ∈ cs, R w φ E v c → R w f' E2 v (F c))
    (hloc : ∀ l, φ id = some l → f' id' = some l) (h : ObjAt w φ E id (.box cs)) : ObjAt w f' E2 id' (.box (cs.map F)) := by
  obtain ⟨g, cur, e, h1, h2, h3, h4⟩ := h
  refine ⟨g, cur, e, hloc _ h1, h2, by simpa using h3, fun k c v hc hv => ?_⟩
  rw [List.getElem?_map] at hc
  cases hq : cs[k]? with
  | none => rw [hq] at hc; cases hc
  | some c' => rw [hq] at hc; cases hc; exact hF v c' (List.mem_of_getElem? hq) (h4 k c' v hq hv)

theorem ObjAt.liftA {w : World} {φ f' : Phi} {E E2 : Nat → Prop} {id id' z : Nat} {xs : List AV} (hk : Keeps w E w E2)
    (hloc : ∀ l, φ id = some l → f' id' = some l) (h : ObjAt w φ E id (.arr z xs)) : ObjAt w f' E2 id' (.arr z xs) := by
  rcases h with ⟨h0, ⟨h1, h2⟩ | ⟨g, cap, cur, e, h1, h2, h3, h4, h5, h6, h7, h8⟩⟩
  · exact ⟨h0, .inl ⟨hloc _ h1, h2⟩⟩
  · refine ⟨h0, .inr ⟨g, cap, cur, e, hloc _ h1, h2, h3, h4, h5, h6, h7, fun j q x c hj hc => ?_⟩⟩
    obtain ⟨v, hv, hr⟩ := h8 j q x c hj hc
    exact ⟨v, hv, (hr.mono φ.le_refl hk).pure f' (AV.good.pure (h7 x (List.mem_of_getElem? hj) c (List.mem_of_getElem? hc)))⟩

theorem R.frz {w : World} {φ : Phi} {n : Nat} {co' : List (Option AObj)} {E E2 : Nat → Prop} (hk : Keeps w E w E2)
    (hobj : ∀ j z xs, n ≤ j → (co'[j]?).join = some (.arr z xs) → ObjAt w φ E j (.arr z xs) ∧ ∀ l g, φ j = some l → l.blk = some g → ¬ E2 g) {v : Value} {x : AV} (h : R w φ E v x) :
    R w φ E2 v (frz n co' x) := by
  have hC : ∀ v c, R w φ E v c → R w φ E2 v (K.frzC n co' c) := fun v c h => h.frzC hk hobj
  have hA : ∀ v c, R w φ E v c → R w φ E2 v (K.frzA n co' c) := fun v c h => by
    cases c with
    | agg cs => exact h.lift _ hC
    | _ => exact hC v _ h
  cases x with
  | tup vs => exact h.liftT _ hA
  | _ => exact hA v _ h

theorem R.up {w : World} {φ : Phi} {m : List Nat} {b : Nat} {f' : Phi} {E own' : Nat → Prop} (hloc : ∀ j l, φ j = some l → f' (upN m b j) = some l) (hk : Keeps w E w own') {v : Value} {x : AV}
    (h : R w φ E v x) : R w f' own' v (up m b x) := by
  have hC : ∀ v c, R w φ E v c → R w f' own' v (K.upC m b c) := fun v c h => h.upC hloc hk
  have hA : ∀ v c, R w φ E v c → R w f' own' v (K.upA m b c) := fun v c h => by
    cases c with
    | agg cs => exact h.lift _ hC
    | _ => exact hC v _ h
  cases x with
  | tup vs => exact h.liftT _ hA
  | _ => exact hA v _ h

theorem frzL_get (n : Nat) (co' : List (Option AObj)) (j : Nat) : ((frzL n co')[j]?).join = if j < n then ((co'[j]?).join).map (frzO n co') else none := by
  unfold frzL
  rw [List.getElem?_map, List.getElem?_take]
  split
  · cases co'[j]? with
    | none => rfl
    | some x => cases x <;> rfl
  · rfl

theorem frzL_length (n : Nat) (co' : List (Option AObj)) (h : n ≤ co'.length) : (frzL n co').length = n := by
  unfold frzL; rw [List.length_map, List.length_take]; omega

/-- What a call by a contract comes to, in a caller's state. -/
theorem call_out {f : Phi} {st : St} {a : Act} {w : World} (hr : Rel f st a w) (hu : st.u i = false) (avs : List AV) (vs : List Value) (hlen : vs.length = avs.length)
    (hR : ∀ (k : Nat) v c, vs[k]? = some v → avs[k]? = some c → R w f (owns f st.o) v c) (fid : FuncId) (fz : Bool) (m : List Nat) (co : List AObj) (ret : AV) (co' : List (Option AObj))
    (ho : ∀ id ∈ m ++ boxIds m o ++ avs.flatMap (ids o), st.o id = o id)
    (hcon : Con P fid (avs.map (down m o)) co ret co') (hnd : m.Nodup) (hmap : m.map (fun id => (o id).map (downO m o)) = co.map some) (hl1 : m.length ≤ co'.length) (hl2 : co'.length ≤ m.length + 16)
    (hflat : seen m (boxIds m o ++ avs.flatMap (ids o)) = [] ∨ Flat ret co') :
    Does P fid vs.toArray w fun v w' => ∃ f', Out f st w i (up m (st.nx + 16 * i) (bif fz then frz m.length co' ret else ret))
      (wrs m (st.nx + 16 * i) m (st.nx + 16 * i) (bif fz then frzL m.length co' else co')) f' w' v := by
  generalize hvids : boxIds m o ++ avs.flatMap (ids o) = vids at hflat
  have hovids : ∀ id ∈ vids, st.o id = o id := fun id hid => ho id (by rw [List.append_assoc, hvids]; exact List.mem_append_right _ hid)
  have hom : ∀ id ∈ m, st.o id = o id := fun id hid => ho id (by simp [hid])
  generalize hb : st.nx + 16 * i = b
  have hfresh : ∀ n, b ≤ n → n < b + 16 → f n = none ∧ st.o n = none := fun n h1 h2 => hr.fresh hu (by omega) (by omega)
  -- the passed objects
  have hcl : co.length = m.length := by have := congrArg List.length hmap; simpa using this.symm
  have hco : ∀ (j id : Nat), m[j]? = some id → ∃ ob, st.o id = some ob ∧ o id = some ob ∧ co[j]? = some (downO m o ob) := by
    intro j id hj
    have h1 := congrArg (fun l => l[j]?) hmap
    simp only [List.getElem?_map, hj, Option.map_some] at h1
    cases hc : co[j]? with
    | none => rw [hc] at h1; cases h1
    | some c =>
      rw [hc] at h1
      simp only [Option.map_some, Option.some.injEq] at h1
      cases ho1 : o id with
      | none => rw [ho1] at h1; cases h1
      | some ob => rw [ho1] at h1; simp at h1; exact ⟨ob, by rw [hom id (List.mem_of_getElem? hj)]; exact ho1, rfl, by rw [h1]⟩
  have hmb : ∀ id ∈ m, ¬ (b ≤ id ∧ id < b + 16) := by
    intro id hid h
    obtain ⟨j, hj⟩ := List.mem_iff_getElem?.1 hid
    obtain ⟨ob, h1, _⟩ := hco j id hj
    rw [(hfresh id h.1 h.2).2] at h1; cases h1
  let φ : Phi := ⟨fun j => match m[j]? with | some id => f id | none => none, fun g => f.x g ∨ ∃ id ob l, st.o id = some ob ∧ id ∉ m ∧ id ∉ vids ∧ f id = some l ∧ l.blk = some g⟩
  have hloc : ∀ (j id : Nat), m[j]? = some id → φ j = f id := fun j id hj => by show (match m[j]? with | some id => f id | none => none) = _; rw [hj]
  have hφnone : ∀ j, m.length ≤ j → φ j = none := fun j hj => by show (match m[j]? with | some id => f id | none => none) = _; rw [List.getElem?_eq_none hj]
  have hlive1 : ∀ g, live φ (fun j => co[j]?) g → ∃ id ob l, id ∈ m ∧ st.o id = some ob ∧ f id = some l ∧ l.blk = some g := by
    rintro g ⟨j, ob, l, h1, h2, h3⟩
    have hj : j < m.length := by rw [← hcl]; exact (List.getElem?_eq_some_iff.1 h1).1
    have hj' : m[j]? = some m[j] := List.getElem?_eq_getElem hj
    obtain ⟨ob', h4, _, _⟩ := hco j _ hj'
    rw [hloc j _ hj'] at h2
    exact ⟨m[j], ob', l, List.getElem_mem hj, h4, h2, h3⟩
  have hsub1 : ∀ g, owns φ (fun j => co[j]?) g → owns f st.o g := by
    intro g hg
    rcases hg with hg | hg | ⟨id, ob, l, h1, _, _, h4, h5⟩
    · obtain ⟨id, ob, l, _, h2, h3, h4⟩ := hlive1 g hg; exact .inl ⟨id, ob, l, h2, h3, h4⟩
    · exact .inr hg
    · exact .inl ⟨id, ob, l, h1, h4, h5⟩
  have hk1 : Keeps w (owns f st.o) w (owns φ fun j => co[j]?) := keeps_sub hsub1
  have hfree : ∀ id ∈ vids, id ∉ m → ∀ ob, o id = some ob → ∀ l g, f id = some l → l.blk = some g → ¬ owns φ (fun j => co[j]?) g := by
    intro id hid hm ob hob l g hl hg hown
    rw [← hovids id hid] at hob
    rcases hown with hown | hown | ⟨id', ob', l', h1, h2, h3, h4, h5⟩
    · obtain ⟨id', ob', l', h2, h3, h4, h5⟩ := hlive1 g hown
      have := hr.o.inj id id' ob ob' l l' g hob h3 hl h4 hg h5
      subst this; exact hm h2
    · exact hr.o.xd g ⟨id, ob, l, hob, hl, hg⟩ hown
    · have := hr.o.inj id id' ob ob' l l' g hob h1 hl h4 hg h5
      subst this; exact h3 hid
  have hobj : ∀ id ∈ vids, ∀ ob, o id = some ob → ObjAt w f (owns f st.o) id ob := fun id hid ob hob => hr.o.at_ id ob (by rw [hovids id hid]; exact hob)
  have hdC : ∀ v x, R w f (owns f st.o) v x → (∀ id ∈ idsC x, id ∈ vids) → R w φ (owns φ fun j => co[j]?) v (downC m o x) := fun v x h hid =>
    R.downC hloc hk1 (fun id hi z xs h1 => hobj id (hid id hi) _ h1) (fun id hi => hfree id (hid id hi)) h
  have hORel : ORel φ (fun j => co[j]?) w := by
    refine ⟨fun j c hj => ?_, fun g hg hx => ?_, fun j j' c c' l l' g h1 h2 h3 h4 h5 h6 => ?_⟩
    · have hjl : j < m.length := by rw [← hcl]; exact (List.getElem?_eq_some_iff.1 hj).1
      have hj' : m[j]? = some m[j] := List.getElem?_eq_getElem hjl
      obtain ⟨ob, h1, h2, h3⟩ := hco j _ hj'
      rw [h3] at hj; cases hj
      have hat := hr.o.at_ _ _ h1
      cases ob with
      | box cs =>
        obtain ⟨g, cur, e, a1, a2, a3, a4⟩ := hat
        refine ⟨g, cur, e, by rw [hloc j _ hj']; exact a1, a2, by simpa using a3, fun k c v hc hv => ?_⟩
        rw [List.getElem?_map] at hc
        cases hq : cs[k]? with
        | none => rw [hq] at hc; cases hc
        | some c' =>
          rw [hq] at hc; cases hc
          refine hdC v c' (a4 k c' v hq hv) fun id hid => ?_
          rw [← hvids]
          refine List.mem_append_left _ (List.mem_flatMap.2 ⟨m[j], List.getElem_mem hjl, ?_⟩)
          rw [h2]; exact List.mem_flatMap.2 ⟨c', List.mem_of_getElem? hq, hid⟩
      | arr z xs =>
        exact hat.liftA hk1 (fun l hl => by rw [hloc j _ hj']; exact hl)
    · obtain ⟨id, ob, l, h1, h2, h3, h4⟩ := hlive1 g hg
      rcases hx with hx | ⟨id', ob', l', h5, h6, h7, h8, h9⟩
      · exact hr.o.xd g ⟨id, ob, l, h2, h3, h4⟩ hx
      · have := hr.o.inj id id' ob ob' l l' g h2 h5 h3 h8 h4 h9
        subst this; exact h6 h1
    · have e1 : j < m.length := by rw [← hcl]; exact (List.getElem?_eq_some_iff.1 h1).1
      have e2 : j' < m.length := by rw [← hcl]; exact (List.getElem?_eq_some_iff.1 h2).1
      have e3 : m[j]? = some m[j] := List.getElem?_eq_getElem e1
      have e4 : m[j']? = some m[j'] := List.getElem?_eq_getElem e2
      obtain ⟨ob, a1, _, _⟩ := hco j _ e3
      obtain ⟨ob', a2, _, _⟩ := hco j' _ e4
      rw [hloc j _ e3] at h3
      rw [hloc j' _ e4] at h4
      have := hr.o.inj m[j] m[j'] ob ob' l l' g a1 a2 h3 h4 h5 h6
      exact (List.getElem_inj hnd).1 this
  -- the call
  have hx : ∀ g, φ.x g → g < w.heap.size := by
    intro g hg
    rcases hg with hg | ⟨id, ob, l, h1, _, _, h4, h5⟩
    · exact hr.xb g hg
    · exact (hr.o.at_ id ob h1).lt h4 h5
  have hargs : ∀ (k : Nat) v c, vs[k]? = some v → (avs.map (down m o))[k]? = some c → R w φ (owns φ fun j => co[j]?) v c := by
    intro k v c hv hc
    rw [List.getElem?_map] at hc
    cases hq : avs[k]? with
    | none => rw [hq] at hc; cases hc
    | some c' =>
      rw [hq] at hc; cases hc
      have hid : ∀ id ∈ ids o c', id ∈ vids := fun id hid => by rw [← hvids]; exact List.mem_append_right _ (List.mem_flatMap.2 ⟨c', List.mem_of_getElem? hq, hid⟩)
      exact R.down hloc hk1 (fun id hi ob h1 => hobj id (hid id hi) ob h1) (fun id hi => hfree id (hid id hi)) (hR k v c' hv hq)
  have hdoes := hcon φ w vs hORel hx (fun j hj => hφnone j (by rw [← hcl]; exact hj)) (by simpa using hlen) hargs
  have fin : ∀ (v : Value) (w' : World), (∃ φ' : Phi, φ.le φ' ∧ ORel φ' (fun j => (co'[j]?).join) w' ∧ R w' φ' (owns φ' fun j => (co'[j]?).join) v ret ∧
      Fr w (live φ fun j => co[j]?) w' (live φ' fun j => (co'[j]?).join) ∧ ∀ j, co'.length ≤ j → φ' j = none) →
      ∃ f', Out f st w i (up m b (bif fz then frz m.length co' ret else ret)) (wrs m b m b (bif fz then frzL m.length co' else co')) f' w' v := by
    rintro v w' ⟨φ', hle, hO, hRet, hFr, hend⟩
    generalize hco2 : (bif fz then frzL m.length co' else co') = co2
    generalize hret2 : (bif fz then frz m.length co' ret else ret) = ret2
    let D : Nat → Prop := fun g => ∃ id ob l, st.o id = some ob ∧ id ∉ m ∧ f id = some l ∧ l.blk = some g
    have hDlt : ∀ g, D g → g < w.heap.size := fun g ⟨id, ob, l, h1, _, h3, h4⟩ => (hr.o.at_ id ob h1).lt h3 h4
    have hD1 : ∀ g, D g → ¬ live φ (fun j => co[j]?) g := by
      rintro g ⟨id, ob, l, h1, h2, h3, h4⟩ hg
      obtain ⟨id', ob', l', h5, h6, h7, h8⟩ := hlive1 g hg
      have := hr.o.inj id id' ob ob' l l' g h1 h6 h3 h7 h4 h8
      subst this; exact h2 h5
    have hD2 : ∀ g, D g → ¬ live φ' (fun j => (co'[j]?).join) g := fun g hg h => (hFr.sub g h).elim (hD1 g hg) fun h => absurd (hDlt g hg) (Nat.not_lt.2 h)
    let E : Nat → Prop := fun g => owns φ' (fun j => (co'[j]?).join) g ∨ D g
    have hE : R w' φ' E v ret ∧ ∀ j ob, (co'[j]?).join = some ob → ObjAt w' φ' E j ob := by
      rcases hflat with hflat | hflat
      · have hin : ∀ id ∈ vids, id ∈ m := by
          intro id hid
          unfold seen at hflat
          rw [List.filter_eq_nil_iff] at hflat
          have := hflat id hid
          simp only [Bool.not_eq_true', Bool.not_eq_false, List.any_eq_true] at this
          obtain ⟨j, hj, hjj⟩ := this
          rw [← Nat.eq_of_beq_eq_true hjj]; exact hj
        have hsub : ∀ g, E g → owns φ' (fun j => (co'[j]?).join) g := by
          intro g hg
          rcases hg with hg | ⟨id, ob, l, h1, h2, h3, h4⟩
          · exact hg
          · exact .inr (by rw [hle.x]; exact .inr ⟨id, ob, l, h1, h2, fun h => h2 (hin id h), h3, h4⟩)
        exact ⟨hRet.mono φ'.le_refl (keeps_sub hsub), fun j ob hj => (hO.at_ j ob hj).mono φ'.le_refl (keeps_sub hsub) fun _ _ _ _ => rfl⟩
      · exact ⟨hRet.flatV hflat.1, fun j ob hj => (hO.at_ j ob hj).flat (hflat.2 ob (join_some hj).1)⟩
    have hco2get : ∀ j ob, (co2[j]?).join = some ob → ∃ ob', (co'[j]?).join = some ob' ∧ (fz = true → j < m.length ∧ ob = frzO m.length co' ob') ∧ (fz = false → ob = ob') := by
      intro j ob hj
      rw [← hco2] at hj
      cases fz with
      | false => exact ⟨ob, hj, (fun h => by cases h), fun _ => rfl⟩
      | true =>
        simp only [cond_true] at hj
        rw [frzL_get] at hj
        split at hj
        · rename_i hjl
          cases hq : (co'[j]?).join with
          | none => rw [hq] at hj; cases hj
          | some ob' => rw [hq] at hj; cases hj; exact ⟨ob', rfl, fun _ => ⟨hjl, rfl⟩, fun h => by cases h⟩
        · cases hj
    have hlive2 : ∀ g, live φ' (fun j => (co2[j]?).join) g → live φ' (fun j => (co'[j]?).join) g := by
      rintro g ⟨j, ob, l, h1, h2, h3⟩
      obtain ⟨ob', h4, _⟩ := hco2get j ob h1
      exact ⟨j, ob', l, h4, h2, h3⟩
    let E2 : Nat → Prop := fun g => owns φ' (fun j => (co2[j]?).join) g ∨ D g
    have hkE : Keeps w' E w' E2 := keeps_sub fun g hg => hg.elim (fun h => h.elim (fun h => .inl (.inl (hlive2 g h))) fun h => .inl (.inr h)) .inr
    have hfrz : fz = true → ∀ j z xs, m.length ≤ j → (co'[j]?).join = some (.arr z xs) → ObjAt w' φ' E j (.arr z xs) ∧ ∀ l g, φ' j = some l → l.blk = some g → ¬ E2 g := by
      intro hfz j z xs hj ho1
      refine ⟨hE.2 j _ ho1, fun l g hl hg hE2 => ?_⟩
      have hlv : live φ' (fun j => (co'[j]?).join) g := ⟨j, _, l, ho1, hl, hg⟩
      rcases hE2 with (hE2 | hE2) | hE2
      · obtain ⟨j', ob', l', h1, h2, h3⟩ := hE2
        obtain ⟨ob'', h4, h5, _⟩ := hco2get j' ob' h1
        have := hO.inj j j' _ ob'' l l' g ho1 h4 hl h2 hg h3
        subst this
        have := (h5 hfz).1; omega
      · exact hO.xd g hlv hE2
      · exact hD2 g hE2 hlv
    have hE2R : R w' φ' E2 v ret2 := by
      rw [← hret2]
      cases fz with
      | false => exact hE.1.mono φ'.le_refl hkE
      | true => exact hE.1.frz hkE (hfrz rfl)
    have hE2O : ∀ j ob, (co2[j]?).join = some ob → ObjAt w' φ' E2 j ob := by
      intro j ob hj
      obtain ⟨ob', h4, h5, h6⟩ := hco2get j ob hj
      have hat := hE.2 j ob' h4
      cases hfz : fz with
      | false => rw [h6 hfz]; exact hat.mono φ'.le_refl hkE fun _ _ _ _ => rfl
      | true =>
        rw [(h5 hfz).2]
        cases ob' with
        | box cs => exact hat.liftB _ (fun u c _ h => h.frzC hkE (hfrz hfz)) fun _ h => h
        | arr z xs => exact hat.liftA hkE fun _ h => h
    -- the caller's state behind it
    let f' : Phi := ⟨fun n => if b ≤ n ∧ n < b + 16 then φ' (m.length + (n - b)) else f n, f.x⟩
    have hf'old : ∀ n, ¬ (b ≤ n ∧ n < b + 16) → f' n = f n := fun n hn => by show (if b ≤ n ∧ n < b + 16 then _ else _) = _; rw [if_neg hn]
    have hf'new : ∀ n, b ≤ n → n < b + 16 → f' n = φ' (m.length + (n - b)) := fun n h1 h2 => by show (if b ≤ n ∧ n < b + 16 then _ else _) = _; rw [if_pos ⟨h1, h2⟩]
    have hup : ∀ j l, φ' j = some l → f' (upN m b j) = some l := by
      intro j l hj
      by_cases hjm : j < m.length
      · rw [upN_lt m b j hjm]
        have hj' : m[j]? = some m[j] := List.getElem?_eq_getElem hjm
        rw [hf'old _ (hmb _ (List.getElem_mem hjm))]
        obtain ⟨ob, h1, _⟩ := hco j _ hj'
        obtain ⟨l', hl'⟩ := (hr.o.at_ _ _ h1).place
        have := hle.loc j l' (by rw [hloc j _ hj']; exact hl')
        rw [hj] at this; cases this; exact hl'
      · have hjc : j < co'.length := by
          rcases Nat.lt_or_ge j co'.length with h | h
          · exact h
          · rw [hend j h] at hj; cases hj
        rw [upN_ge m b j (by omega), hf'new _ (by omega) (by omega)]
        rw [show m.length + (b + (j - m.length) - b) = j by omega]; exact hj
    have hl2' : m.length ≤ co2.length ∧ co2.length ≤ m.length + 16 := by
      rw [← hco2]
      cases fz with
      | false => exact ⟨hl1, hl2⟩
      | true => simp only [cond_true]; rw [frzL_length _ _ hl1]; omega
    generalize hwo : wrs m b m b co2 = wo
    have ho'get : ∀ j, j < co2.length → updO wo st.o (upN m b j) = ((co2[j]?).join).map (upO m b) := fun j hj => by
      rw [← hwo]
      exact updO_wrs m b co2 m b st.o j hnd (fun id hid h => hmb id hid (by omega)) hj
    have hcls : ∀ n ob, updO wo st.o n = some ob → (∃ j ob', n = upN m b j ∧ (co2[j]?).join = some ob' ∧ ob = upO m b ob' ∧ f' n = φ' j) ∨ (n ∉ m ∧ st.o n = some ob ∧ f' n = f n) := by
      intro n ob hn
      have new : ∀ j, j < co2.length → n = upN m b j → ∃ j ob', n = upN m b j ∧ (co2[j]?).join = some ob' ∧ ob = upO m b ob' ∧ f' n = φ' j := by
        intro j hj hnj
        have h1 := ho'get j hj
        rw [← hnj, hn] at h1
        cases hq : (co2[j]?).join with
        | none => rw [hq] at h1; cases h1
        | some ob' =>
          rw [hq] at h1
          obtain ⟨l, hl⟩ := (hE2O j ob' hq).place
          exact ⟨j, ob', hnj, hq, by simpa using h1, by rw [hl, hnj]; exact hup j l hl⟩
      by_cases hnm : n ∈ m
      · obtain ⟨j, hj⟩ := List.mem_iff_getElem?.1 hnm
        have hjl := (List.getElem?_eq_some_iff.1 hj).1
        exact .inl (new j (by omega) (by rw [upN_lt m b j hjl]; rw [List.getElem?_eq_getElem hjl] at hj; exact (Option.some.inj hj).symm))
      · by_cases hnb : b ≤ n ∧ n < b + (co2.length - m.length)
        · exact .inl (new (m.length + (n - b)) (by omega) (by rw [upN_ge m b _ (by omega)]; omega))
        · rw [← hwo, updO_wrs_other m b co2 m b st.o n hnm hnb] at hn
          refine .inr ⟨hnm, hn, hf'old n fun h => ?_⟩
          rw [(hfresh n h.1 h.2).2] at hn; cases hn
    have hlv2 : ∀ g, live f' (updO wo st.o) g → live φ' (fun j => (co2[j]?).join) g ∨ (live f st.o g ∧ D g) := by
      rintro g ⟨n, ob, l, h1, h2, h3⟩
      rcases hcls n ob h1 with ⟨j, ob', _, h5, _, h7⟩ | ⟨h4, h5, h6⟩
      · exact .inl ⟨j, ob', l, h5, by rw [← h7]; exact h2, h3⟩
      · rw [h6] at h2; exact .inr ⟨⟨n, ob, l, h5, h2, h3⟩, ⟨n, ob, l, h5, h4, h2, h3⟩⟩
    have hle' : f.le f' := ⟨fun id l h => by
      rw [hf'old id fun hr' => by rw [(hfresh id hr'.1 hr'.2).1] at h; cases h]; exact h, rfl⟩
    have hfr' : Fr w (live f st.o) w' (live f' (updO wo st.o)) := by
      refine ⟨hFr.size, fun g hg hn => hFr.keep g hg fun h => hn ?_, fun g hg => ?_, hFr.os, hFr.tape, hFr.output⟩
      · obtain ⟨id, ob, l, _, h2, h3, h4⟩ := hlive1 g h; exact ⟨id, ob, l, h2, h3, h4⟩
      · rcases hlv2 g hg with h | h
        · rcases hFr.sub g (hlive2 g h) with h | h
          · obtain ⟨id, ob, l, _, h2, h3, h4⟩ := hlive1 g h; exact .inl ⟨id, ob, l, h2, h3, h4⟩
          · exact .inr h
        · exact .inl h.1
    have hkE2 : Keeps w' E2 w' (owns f' (updO wo st.o)) := keeps_sub fun g hg => by
      rcases hg with hg | hg
      · rcases hlv2 g hg with h | h
        · exact .inl (.inl h)
        · exact .inr h.2
      · exact .inl (.inr (by rw [hle.x]; exact .inl hg))
    have hkX := hfr'.keepsX hle'.x
    refine ⟨f', hle', hfr', ⟨fun n ob hn => ?_, fun g hg hx' => ?_, fun n n' ob ob' l l' g h1 h2 h3 h4 h5 h6 => ?_⟩, hE2R.up hup hkE2, fun id h1 h2 => ?_⟩
    · rcases hcls n ob hn with ⟨j, ob', h4, h5, h6, h7⟩ | ⟨h4, h5, h6⟩
      · subst h6
        have hl : ∀ l, φ' j = some l → f' n = some l := fun l h => by rw [h7]; exact h
        have hat := hE2O j ob' h5
        cases ob' with
        | box cs => exact hat.liftB _ (fun u c _ h => h.upC hup hkE2) hl
        | arr z xs => exact hat.liftA hkE2 hl
      · refine (hr.o.at_ n ob h5).mono hle' hkX fun l g hl hg => hFr.keep g ((hr.o.at_ n ob h5).lt hl hg) (hD1 g ⟨n, ob, l, h5, h4, hl, hg⟩)
    · rcases hlv2 g hg with h | h
      · exact hO.xd g (hlive2 g h) (by rw [hle.x]; exact .inl hx')
      · exact hr.o.xd g h.1 hx'
    · rcases hcls n ob h1 with ⟨j, o1, a1, a2, _, a4⟩ | ⟨a1, a2, a3⟩ <;> rcases hcls n' ob' h2 with ⟨j', o2, b1, b2, _, b4⟩ | ⟨b1, b2, b3⟩
      · rw [a4] at h3; rw [b4] at h4
        obtain ⟨o3, c1, _⟩ := hco2get j o1 a2
        obtain ⟨o4, c2, _⟩ := hco2get j' o2 b2
        have := hO.inj j j' o3 o4 l l' g c1 c2 h3 h4 h5 h6
        rw [a1, b1, this]
      · rw [a4] at h3; rw [b3] at h4
        exact absurd (hlive2 g ⟨j, o1, l, a2, h3, h5⟩) (hD2 g ⟨n', ob', l', b2, b1, h4, h6⟩)
      · rw [a3] at h3; rw [b4] at h4
        exact absurd (hlive2 g ⟨j', o2, l', b2, h4, h6⟩) (hD2 g ⟨n, ob, l, a2, a1, h3, h5⟩)
      · rw [a3] at h3; rw [b3] at h4
        exact hr.o.inj n n' ob ob' l l' g a2 b2 h3 h4 h5 h6
    · by_cases hr' : b ≤ id ∧ id < b + 16
      · rw [hb]; exact hr'
      · rw [hf'old id hr'] at h2; exact absurd h1 h2
  rcases hdoes with ⟨h1, h2⟩ | ⟨v, w', h1, h2⟩
  · exact .inl ⟨h1, h2.mono fun e w' ⟨v, hv, hp⟩ => ⟨v, hv, fin v w' hp⟩⟩
  · exact .inr ⟨v, w', h1, fin v w' h2⟩

end
end Go.Proofs.YtbknlijpkabcnaaGreat.K
