/- A region whose order is open: one run in the order of the text, with what stands apart, gives every run. No condition. -/
import Derived.Test.YtbknlijpkabcnaaGreatK17
namespace Go.Proofs.YtbknlijpkabcnaaGreat.K
open Go

/-- An operation with what it came to. -/
structure Ent where
  i : Nat
  fp : FP
  v : AV
  wo : List (Nat × Option AObj)

def St.ent (st : St) (e : Ent) : St := st.app e.i e.fp.wt e.v e.wo

/-- Wherever what it looks at is the same, it comes to that. -/
def Good (P : Program) (ops : Array Oper) (nx : Nat) (e : Ent) (st : St) : Prop :=
  e.fp.wo = e.wo.map (·.1) ∧
  ∀ (f : Phi) (st2 : St) (a : Act) (w : World), Rel f st2 a w → st2.nx = nx → st2.nt = st.nt → st2.u e.i = false → (∀ d ∈ e.fp.rt, st2.t d = st.t d) → (∀ id ∈ e.fp.ro, st2.o id = st.o id) →
    ∀ (K : Act → World → Prop) (Q : Exit → Act → World → Prop), (∀ f' a' w', Step f st2 w f' (st2.ent e) a' w' → K a' w') → wpOp P ops Q e.i K a w

def Valid (P : Program) (ops : Array Oper) (nx : Nat) : List Ent → St → St → Prop
  | [], st, st' => st' = st
  | e :: es, st, st' => Good P ops nx e st ∧ Valid P ops nx es (st.ent e) st'

theorem hasN_iff {n : Nat} {l : List Nat} : hasN n l = true ↔ n ∈ l := by
  unfold hasN
  rw [List.any_eq_true]
  exact ⟨fun ⟨k, hk, h⟩ => by rw [← Nat.eq_of_beq_eq_true h]; exact hk, fun h => ⟨n, h, Nat.beq_refl n⟩⟩

theorem disj_spec {l m : List Nat} (h : disj l m = true) : ∀ n ∈ l, n ∉ m := by
  intro n hn hm
  have := List.all_eq_true.1 h n hn
  rw [hasN_iff.2 hm] at this
  simp at this

theorem putD_ne {dst : Option Nat} {v : AV} {t : Nat → AV} {n : Nat} (h : n ∉ dst.toList) : putD dst v t n = t n := by
  cases dst with
  | none => rfl
  | some d =>
    simp at h
    have : Nat.beq n d = false := by
      cases e : Nat.beq n d with
      | false => rfl
      | true => exact absurd (Nat.eq_of_beq_eq_true e) h
    simp [putD, putT, this]

theorem updO_ne {n : Nat} : ∀ {l : List (Nat × Option AObj)} {o : Ob}, n ∉ l.map (·.1) → updO l o n = o n
  | [], _, _ => rfl
  | (id, x) :: l, o, h => by
    simp only [List.map_cons, List.mem_cons, not_or] at h
    have : Nat.beq n id = false := by
      cases e : Nat.beq n id with
      | false => rfl
      | true => exact absurd (Nat.eq_of_beq_eq_true e) h.1
    simp only [updO]
    rw [updO_ne h.2, this]; rfl

theorem updO_congr {n : Nat} : ∀ {l : List (Nat × Option AObj)} {o o' : Ob}, (n ∈ l.map (·.1) ∨ o n = o' n) → updO l o n = updO l o' n
  | [], o, o', h => by show o n = o' n; simpa using h
  | (id, x) :: l, o, o', h => by
    simp only [updO]
    apply updO_congr
    simp only [List.map_cons, List.mem_cons] at h
    by_cases hm : n ∈ l.map (·.1)
    · exact .inl hm
    · refine .inr ?_
      cases e : Nat.beq n id with
      | true => rfl
      | false =>
        simp only [cond_false]
        rcases h with (h | h) | h
        · subst h; rw [Nat.beq_refl] at e; cases e
        · exact absurd h hm
        · exact h

theorem updO_comm (l l' : List (Nat × Option AObj)) (o : Ob) (h : ∀ n ∈ l.map (·.1), n ∉ l'.map (·.1)) : updO l (updO l' o) = updO l' (updO l o) := by
  funext n
  by_cases h1 : n ∈ l.map (·.1)
  · rw [updO_ne (h n h1)]; exact updO_congr (.inl h1)
  · rw [updO_ne h1]
    exact updO_congr (by rw [updO_ne h1]; exact .inr rfl)

theorem putD_comm (a b : Option Nat) (u v : AV) (t : Nat → AV) (h : ∀ n ∈ a.toList, n ∉ b.toList) : putD a u (putD b v t) = putD b v (putD a u t) := by
  funext n
  by_cases h1 : n ∈ a.toList
  · rw [putD_ne (h n h1)]
    cases a with
    | none => simp at h1
    | some d => simp at h1; subst h1; simp [putD, putT, Nat.beq_refl]
  · rw [putD_ne h1]
    cases b with
    | none => exact (putD_ne h1).symm
    | some d =>
      simp only [putD, putT]
      cases Nat.beq n d with
      | true => rfl
      | false => simp only [cond_false]; exact (putD_ne h1).symm

section
variable {P : Program} {ops : Array Oper} {nx : Nat}

theorem swap {x y : Ent} {st : St} (hx : Good P ops nx x st) (hy : Good P ops nx y (st.ent x)) (h : x.fp.indep y.fp = true) :
    Good P ops nx y st ∧ Good P ops nx x (st.ent y) ∧ (st.ent x).ent y = (st.ent y).ent x := by
  unfold FP.indep at h
  rw [Bool.and_eq_true, Bool.and_eq_true, Bool.and_eq_true] at h
  obtain ⟨⟨⟨h1, h2⟩, h3⟩, h4⟩ := h
  have h1 := disj_spec h1; have h2 := disj_spec h2; have h3 := disj_spec h3; have h4 := disj_spec h4
  rw [hx.1] at h3
  rw [hy.1] at h4
  refine ⟨⟨hy.1, fun f st2 a w hr hn hnt hu ht ho => hy.2 f st2 a w hr hn hnt hu (fun d hd => ?_) (fun id hid => ?_)⟩,
    ⟨hx.1, fun f st2 a w hr hn hnt hu ht ho => hx.2 f st2 a w hr hn hnt hu (fun d hd => ?_) (fun id hid => ?_)⟩, ?_⟩
  · rw [ht d hd]; exact (putD_ne fun hw => h1 d hw (List.mem_append_left _ hd)).symm
  · rw [ho id hid]; exact (updO_ne fun hw => h3 id hw (List.mem_append_left _ hid)).symm
  · rw [ht d hd]; exact putD_ne fun hw => h2 d hw hd
  · rw [ho id hid]; exact updO_ne fun hw => h4 id hw hid
  · unfold St.ent St.app
    congr 1
    · exact putD_comm _ _ _ _ _ fun n hn hm => h1 n hm (List.mem_append_right _ hn)
    · exact updO_comm _ _ _ fun n hn hm => h3 n hm (List.mem_append_right _ (by rw [hy.1]; exact hn))
    · funext n
      show (bif Nat.beq n y.i then true else bif Nat.beq n x.i then true else st.u n) = (bif Nat.beq n x.i then true else bif Nat.beq n y.i then true else st.u n)
      cases Nat.beq n x.i <;> cases Nat.beq n y.i <;> rfl

theorem front {y : Ent} {B : List Ent} {st' : St} : ∀ {A : List Ent} {st : St}, Valid P ops nx (A ++ y :: B) st st' → (∀ x ∈ A, x.fp.indep y.fp = true) → Valid P ops nx (y :: (A ++ B)) st st'
  | [], _, h, _ => h
  | x :: A, st, h, hi => by
    obtain ⟨h1, h2⟩ := h
    obtain ⟨h3, h4⟩ := front h2 fun z hz => hi z (by simp [hz])
    obtain ⟨h5, h6, h7⟩ := swap h1 h3 (hi x (by simp))
    refine ⟨h5, h6, ?_⟩
    rw [← h7]; exact h4

/-- What has been done, by the edges, ahead of what may be done. -/
def Closed (ops : Array Oper) (listed : Array Bool) : Prop :=
  ∀ (i : Nat) (o : Oper), listed.getD i false = true → ops[i]? = some o → ∀ e ∈ o.after.toList, Region.binds .any e = true → listed.getD e.on false = true

theorem anc_listed {listed : Array Bool} (hc : Closed ops listed) : ∀ (n i j : Nat), anc ops.toList n i j = true →
    (∀ o, ops[i]? = some o → ∀ e ∈ o.after.toList, Region.binds .any e = true → listed.getD e.on false = true) → listed.getD j false = true
  | 0, _, _, h, _ => by simp [anc] at h
  | n + 1, i, j, h, hp => by
    unfold anc at h
    rw [Array.getElem?_toList] at h
    split at h
    · cases h
    · rename_i o ho
      rw [List.any_eq_true] at h
      obtain ⟨e, he, h⟩ := h
      rw [Bool.and_eq_true] at h
      have hl := hp o ho e he h.1
      have h2 := h.2
      rw [Bool.or_eq_true] at h2
      rcases h2 with h2 | h2
      · rw [← Nat.eq_of_beq_eq_true h2]; exact hl
      · exact anc_listed hc n e.on j h2 fun o' ho' e' he' hb => hc e.on o' hl ho' e' he' hb

/-- All pairs that do not stand apart are ordered by the edges. -/
def Ordered (ops : Array Oper) (es : List Ent) : Prop := es.Pairwise fun x y => x.fp.indep y.fp = true ∨ anc ops.toList ops.toList.length y.i x.i = true

theorem Ordered.mid {A B : List Ent} {y : Ent} (h : Ordered ops (A ++ y :: B)) : (∀ x ∈ A, x.fp.indep y.fp = true ∨ anc ops.toList ops.toList.length y.i x.i = true) ∧ Ordered ops (A ++ B) := by
  unfold Ordered at h
  rw [List.pairwise_append, List.pairwise_cons] at h
  obtain ⟨h1, ⟨h2, h3⟩, h4⟩ := h
  refine ⟨fun x hx => h4 x hx y (by simp), ?_⟩
  unfold Ordered
  rw [List.pairwise_append]
  exact ⟨h1, h3, fun x hx z hz => h4 x hx z (by simp [hz])⟩

theorem ready_iff {listed : Array Bool} {i : Nat} {o : Oper} (ho : ops[i]? = some o) : i ∈ Region.ready .any ops listed ↔
    listed.getD i true = false ∧ ∀ e ∈ o.after.toList, Region.binds .any e = true → listed.getD e.on false = true := by
  have hlt := (Array.getElem?_eq_some_iff.1 ho).1
  unfold Region.ready
  rw [List.mem_filter]
  simp only [List.mem_range, hlt, true_and, ho, Option.map_some, Option.getD_some, Bool.and_eq_true, Bool.not_eq_true']
  constructor
  · rintro ⟨h1, h2⟩
    refine ⟨h1, fun e he hb => ?_⟩
    rw [← Array.all_toList, List.all_eq_true] at h2
    have := h2 e he
    rw [hb] at this
    simpa using this
  · rintro ⟨h1, h2⟩
    refine ⟨h1, ?_⟩
    rw [← Array.all_toList, List.all_eq_true]
    intro e he
    cases hb : Region.binds .any e with
    | false => rfl
    | true => simp [h2 e he hb]

/-- In whatever order. -/
theorem any_sound {Q : Exit → Act → World → Prop} (hback : ∀ (i : Nat) (o : Oper), ops[i]? = some o → ∀ e ∈ o.after.toList, Region.binds .any e = true → e.on < i) (st' : St) :
    ∀ (fuel : Nat) (es : List Ent) (listed : Array Bool) (st : St) (f : Phi) (a : Act) (w : World), es.length ≤ fuel → Valid P ops nx es st st' → Ordered ops es → Rel f st a w → st.nx = nx →
      listed.size = ops.size → Closed ops listed → (∀ i, i < ops.size → (listed.getD i true = false ↔ ∃ e ∈ es, e.i = i)) → (es.map (·.i)).Pairwise (· < ·) → (∀ e ∈ es, e.i < ops.size ∧ st.u e.i = false) →
      (∀ f' a' w', Step f st w f' st' a' w' → Q .normal a' w') → wpAny P .any ops Q fuel listed a w := by
  intro fuel
  induction fuel with
  | zero =>
    intro es listed st f a w hl hv ho hr hn hsz hc hiff hp hu hk
    have : es = [] := List.eq_nil_of_length_eq_zero (by omega)
    subst this
    simp only [Valid] at hv
    subst hv
    refine ⟨?_, hk f a w ⟨f.le_refl, .refl _ _, hr⟩⟩
    unfold Region.ready
    rw [List.filter_eq_nil_iff]
    intro i hi
    have hi' : i < ops.size := by simpa using hi
    have : ¬ listed.getD i true = false := fun h => by obtain ⟨e, he, _⟩ := (hiff i hi').1 h; simp at he
    simp at this
    simp [this]
  | succ fuel ih =>
    intro es listed st f a w hl hv ho hr hn hsz hc hiff hp hu hk
    refine ⟨fun hnil => ?_, fun i hi => ?_⟩
    · -- nothing is ready: nothing is left
      match es, hv, hu, hp, hiff with
      | [], hv, _, _, _ => simp only [Valid] at hv; subst hv; exact hk f a w ⟨f.le_refl, .refl _ _, hr⟩
      | e :: es, _, hu, hp, hiff =>
        exfalso
        have hei := (hu e (by simp)).1
        obtain ⟨o, hoe⟩ : ∃ o, ops[e.i]? = some o := ⟨ops[e.i], Array.getElem?_eq_getElem hei⟩
        have : e.i ∈ Region.ready .any ops listed := (ready_iff hoe).2 ⟨(hiff e.i hei).2 ⟨e, by simp, rfl⟩, fun ed hed hb => by
          have hlt := hback e.i o hoe ed hed hb
          cases hx : listed.getD ed.on false with
          | true => rfl
          | false =>
            have hx' : listed.getD ed.on true = false := by
              have : ed.on < listed.size := by omega
              simp [Array.getD, this] at hx ⊢; exact hx
            obtain ⟨e', he', h2⟩ := (hiff ed.on (by omega)).1 hx'
            rcases List.mem_cons.1 he' with h3 | h3
            · subst h3; omega
            · have h9 : e.i < e'.i := (List.pairwise_cons.1 hp).1 e'.i (List.mem_map.2 ⟨e', h3, rfl⟩)
              omega⟩
        rw [hnil] at this; simp at this
    · have hi' : i < ops.size := by
        unfold Region.ready at hi
        rw [List.mem_filter] at hi
        simpa using hi.1
      obtain ⟨o, hoi⟩ : ∃ o, ops[i]? = some o := ⟨ops[i], Array.getElem?_eq_getElem hi'⟩
      obtain ⟨hul, hpred⟩ := (ready_iff hoi).1 hi
      obtain ⟨e, he, hei⟩ := (hiff i hi').1 hul
      obtain ⟨A, B, rfl⟩ := List.append_of_mem he
      obtain ⟨hmid, hord⟩ := ho.mid
      have hind : ∀ x ∈ A, x.fp.indep e.fp = true := by
        intro x hx
        rcases hmid x hx with h | h
        · exact h
        · have hxl := anc_listed hc _ _ _ h (by rw [hei]; intro o' ho'; rw [hoi] at ho'; cases ho'; exact hpred)
          have hxi := (hu x (by simp [hx])).1
          have := (hiff x.i hxi).2 ⟨x, by simp [hx], rfl⟩
          have hlt : x.i < listed.size := by omega
          simp [Array.getD, hlt] at this hxl
          rw [this] at hxl; cases hxl
      obtain ⟨hg, hv'⟩ := front hv hind
      have hue := (hu e (by simp)).2
      rw [← hei]
      refine hg.2 f st a w hr hn rfl hue (fun _ _ => rfl) (fun _ _ => rfl) _ Q fun f' a' w' hst => ?_
      have hpair : ((A ++ B).map (·.i)).Pairwise (· < ·) := by
        refine hp.sublist ?_
        simp only [List.map_append, List.map_cons]
        exact List.Sublist.append_left (List.sublist_cons_self _ _) _
      have hne : ∀ x ∈ A ++ B, x.i ≠ e.i := by
        intro x hx hxe
        rw [List.map_append, List.map_cons, List.pairwise_append] at hp
        rcases List.mem_append.1 hx with h | h
        · have := hp.2.2 x.i (List.mem_map.2 ⟨x, h, rfl⟩) e.i (by simp); omega
        · have := (List.pairwise_cons.1 hp.2.1).1 x.i (List.mem_map.2 ⟨x, h, rfl⟩); omega
      refine ih (A ++ B) (listed.setIfInBounds e.i true) (st.ent e) f' a' w' (by simp at hl ⊢; omega) hv' hord hst.rel hn (by simpa using hsz) (fun j o' hj ho' ed hed hb => ?_) (fun j hj => ?_) hpair (fun x hx => ?_)
        fun f'' a'' w'' hst' => hk f'' a'' w'' (hst.trans hst')
      · by_cases hje : j = e.i
        · subst hje
          rw [hei, hoi] at ho'; cases ho'
          exact getD_set_true (hpred ed hed hb)
        · rw [getD_set_ne false (fun h => hje h.symm)] at hj
          exact getD_set_true (hc j o' hj ho' ed hed hb)
      · by_cases hje : j = e.i
        · subst hje
          have hlt : e.i < listed.size := by omega
          constructor
          · intro h; simp [Array.getD, hlt] at h
          · rintro ⟨x, hx, hxi⟩; exact absurd hxi (hne x hx)
        · rw [getD_set_ne true (fun h => hje h.symm), hiff j hj]
          constructor
          · rintro ⟨x, hx, hxi⟩
            rcases List.mem_append.1 hx with h | h
            · exact ⟨x, by simp [h], hxi⟩
            · rcases List.mem_cons.1 h with h | h
              · subst h; exact absurd hxi.symm hje
              · exact ⟨x, by simp [h], hxi⟩
          · rintro ⟨x, hx, hxi⟩
            exact ⟨x, by rcases List.mem_append.1 hx with h | h <;> simp [h], hxi⟩
      · have h1 := hu x (by rcases List.mem_append.1 hx with h | h <;> simp [h])
        refine ⟨h1.1, ?_⟩
        show (bif Nat.beq x.i e.i then true else st.u x.i) = false
        have : Nat.beq x.i e.i = false := by
          cases h : Nat.beq x.i e.i with
          | false => rfl
          | true => exact absurd (Nat.eq_of_beq_eq_true h) (hne x hx)
        rw [this]; exact h1.2

end
end Go.Proofs.YtbknlijpkabcnaaGreat.K
