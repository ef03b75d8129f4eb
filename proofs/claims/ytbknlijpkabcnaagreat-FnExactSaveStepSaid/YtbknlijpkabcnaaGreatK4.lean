/- One object turned or made: the state behind it; the operations of one value, of loads, stores and new memory. No condition. -/
import Derived.Test.YtbknlijpkabcnaaGreatK3
namespace Go.Proofs.YtbknlijpkabcnaaGreat.K
open Go

theorem ObjAt.mono {w w' : World} {f f' : Phi} {own own' : Nat → Prop} {id : Nat} {ob : AObj} (hf : f.le f') (hk : Keeps w own w' own')
    (hb : ∀ l g, f id = some l → l.blk = some g → w'.heap[g]? = w.heap[g]?) (h : ObjAt w f own id ob) : ObjAt w' f' own' id ob := by
  cases ob with
  | box cs =>
    obtain ⟨g, cur, e, h1, h2, h3, h4⟩ := h
    exact ⟨g, cur, e, hf.loc _ _ h1, by rw [hb _ g h1 rfl]; exact h2, h3, fun k c v hc hv => (h4 k c v hc hv).mono hf hk⟩
  | arr z xs =>
    rcases h with ⟨h0, ⟨h1, h2⟩ | ⟨g, cap, cur, e, h1, h2, h3, h4, h5, h6, h7, h8⟩⟩
    · exact ⟨h0, .inl ⟨hf.loc _ _ h1, h2⟩⟩
    · refine ⟨h0, .inr ⟨g, cap, cur, e, hf.loc _ _ h1, by rw [hb _ g h1 rfl]; exact h2, h3, h4, h5, h6, h7, fun j i x c hx hc => ?_⟩⟩
      obtain ⟨v, hv, hr⟩ := h8 j i x c hx hc
      exact ⟨v, hv, hr.mono hf hk⟩

theorem ObjAt.lt {w : World} {f : Phi} {own : Nat → Prop} {id : Nat} {ob : AObj} (h : ObjAt w f own id ob) {l : Loc} {g : Nat} (hl : f id = some l) (hg : l.blk = some g) :
    g < w.heap.size := by
  cases ob with
  | box cs =>
    obtain ⟨g', cur, e, h1, h2, _⟩ := h
    rw [h1] at hl; cases hl; cases hg
    exact (Array.getElem?_eq_some_iff.1 h2).1
  | arr z xs =>
    rcases h with ⟨_, ⟨h1, _⟩ | ⟨g', cap, cur, e, h1, h2, _⟩⟩
    · rw [h1] at hl; cases hl; cases hg
    · rw [h1] at hl; cases hl; cases hg
      exact (Array.getElem?_eq_some_iff.1 h2).1

theorem ObjAt.place {w : World} {f : Phi} {own : Nat → Prop} {id : Nat} {ob : AObj} (h : ObjAt w f own id ob) : ∃ l, f id = some l := by
  cases ob with
  | box cs => obtain ⟨g', cur, e, h1, _⟩ := h; exact ⟨_, h1⟩
  | arr z xs => rcases h with ⟨_, ⟨h1, _⟩ | ⟨g', cap, cur, e, h1, _⟩⟩ <;> exact ⟨_, h1⟩

/-- One object, t, is made or turned; blocks in S are written; no other object lies in them. -/
theorem out_one {f : Phi} {st : St} {a : Act} {w : World} (hr : Rel f st a w) (i : Nat) (wo : List (Nat × Option AObj)) (t : Nat) (f' : Phi) (w' : World) (S : Nat → Prop)
    (v : AV) (r : Value) (hle : f.le f') (hft : ∀ n, n ≠ t → f' n = f n)
    (hnew : f t = none → f' t ≠ none → st.nx + 16 * i ≤ t ∧ t < st.nx + 16 * i + 16)
    (hsz : w.heap.size ≤ w'.heap.size) (hos : w'.os = w.os) (htp : w'.tape = w.tape) (hou : w'.output = w.output)
    (hS : ∀ g, S g → live f st.o g ∧ ∀ n ob l, n ≠ t → updO wo st.o n = some ob → f n = some l → l.blk ≠ some g)
    (hkeep : ∀ g, g < w.heap.size → ¬ S g → w'.heap[g]? = w.heap[g]?)
    (ho : ∀ n ob, n ≠ t → updO wo st.o n = some ob → st.o n = some ob)
    (hblk : ∀ l g, f' t = some l → l.blk = some g → w.heap.size ≤ g ∨ (live f st.o g ∧ ∀ n ob l, n ≠ t → updO wo st.o n = some ob → f n = some l → l.blk ≠ some g))
    (ht : Keeps w (owns f st.o) w' (owns f' (updO wo st.o)) → ∀ ob, updO wo st.o t = some ob → ObjAt w' f' (owns f' (updO wo st.o)) t ob)
    (hv : Keeps w (owns f st.o) w' (owns f' (updO wo st.o)) → R w' f' (owns f' (updO wo st.o)) r v) : Out f st w i v wo f' w' r := by
  have hfr : Fr w (live f st.o) w' (live f' (updO wo st.o)) := by
    refine ⟨hsz, fun g hg hn => hkeep g hg fun hs => hn (hS g hs).1, fun g hg => ?_, hos, htp, hou⟩
    obtain ⟨n, ob, l, h1, h2, h3⟩ := hg
    by_cases e : n = t
    · subst e
      exact (hblk l g h2 h3).elim .inr fun h => .inl h.1
    · rw [hft n e] at h2
      exact .inl ⟨n, ob, l, ho n ob e h1, h2, h3⟩
  have hk := hfr.keepsX hle.x
  refine ⟨hle, hfr, ⟨fun id ob h => ?_, fun g hg => ?_, fun id id' ob ob' l l' g h1 h2 h3 h4 h5 h6 => ?_⟩, hv hk, fun id h1 h2 => ?_⟩
  · by_cases e : id = t
    · subst e; exact ht hk ob h
    · have hold := hr.o.at_ id ob (ho id ob e h)
      refine hold.mono hle hk fun l g hl hg => hkeep g (hold.lt hl hg) fun hs => ?_
      exact (hS g hs).2 id ob l e h hl hg
  · rw [hle.x]
    rcases hfr.sub g hg with h | h
    · exact hr.o.xd g h
    · exact fun hx => absurd (hr.xb g hx) (Nat.not_lt.2 h)
  · by_cases e : id = t
    · by_cases e' : id' = t
      · rw [e, e']
      · subst e
        rw [hft id' e'] at h4
        have hold := hr.o.at_ id' ob' (ho id' ob' e' h2)
        rcases hblk l g h3 h5 with h7 | h7
        · exact absurd (hold.lt h4 h6) (Nat.not_lt.2 h7)
        · exact absurd h6 (h7.2 id' ob' l' e' h2 h4)
    · by_cases e' : id' = t
      · subst e'
        rw [hft id e] at h3
        have hold := hr.o.at_ id ob (ho id ob e h1)
        rcases hblk l' g h4 h6 with h7 | h7
        · exact absurd (hold.lt h3 h5) (Nat.not_lt.2 h7)
        · exact absurd h5 (h7.2 id ob l e h1 h3)
      · rw [hft id e] at h3; rw [hft id' e'] at h4
        exact hr.o.inj id id' ob ob' l l' g (ho id ob e h1) (ho id' ob' e' h2) h3 h4 h5 h6
  · by_cases e : id = t
    · subst e; exact hnew h1 h2
    · rw [hft id e] at h2; exact absurd h1 h2

/-- No world turned. -/
theorem out_val {f : Phi} {st : St} {a : Act} {w : World} (hr : Rel f st a w) (i : Nat) (v : AV) (r : Value) (hv : R w f (owns f st.o) r v) : Out f st w i v [] f w r :=
  ⟨f.le_refl, .refl _ _, hr.o, hv, fun _ h1 h2 => absurd h1 h2⟩

theorem Rel.fresh {f : Phi} {st : St} {a : Act} {w : World} (hr : Rel f st a w) {i : Nat} (hu : st.u i = false) {b : Nat} (h1 : st.nx + 16 * i ≤ b) (h2 : b < st.nx + 16 * i + 16) :
    f b = none ∧ st.o b = none := by
  have h3 : f b = none := hr.fr b (by omega) (by rw [show (b - st.nx) / 16 = i by omega]; exact hu)
  refine ⟨h3, ?_⟩
  cases h : st.o b with
  | none => rfl
  | some ob => obtain ⟨l, hl⟩ := (hr.o.at_ b ob h).place; rw [h3] at hl; cases hl

def putPhi (f : Phi) (b : Nat) (l : Loc) : Phi := ⟨fun n => if n = b then some l else f n, f.x⟩
theorem putPhi_self (f : Phi) (b : Nat) (l : Loc) : putPhi f b l b = some l := by simp [putPhi]
theorem putPhi_ne (f : Phi) (b : Nat) (l : Loc) {n : Nat} (h : n ≠ b) : putPhi f b l n = f n := by simp [putPhi, h]
theorem putPhi_le (f : Phi) (b : Nat) (l : Loc) (h : f b = none) : f.le (putPhi f b l) := ⟨fun n m e => by
  by_cases h2 : n = b
  · subst h2; rw [h] at e; cases e
  · rw [putPhi_ne f b l h2]; exact e, rfl⟩

theorem updO_one (b : Nat) (x : Option AObj) (o : Ob) : updO [(b, x)] o b = x := by simp [updO, Nat.beq_refl]
theorem updO_one_ne (b : Nat) (x : Option AObj) (o : Ob) {n : Nat} (h : n ≠ b) : updO [(b, x)] o n = o n := by
  have : Nat.beq n b = false := by
    cases e : Nat.beq n b with
    | false => rfl
    | true => exact absurd (Nat.eq_of_beq_eq_true e) h
  simp [updO, this]
theorem updO_two (a b : Nat) (x y : Option AObj) (o : Ob) : updO [(a, x), (b, y)] o b = y := by simp [updO, Nat.beq_refl]
theorem updO_two_fst (a b : Nat) (x y : Option AObj) (o : Ob) (h : a ≠ b) : updO [(a, x), (b, y)] o a = x := by
  have : Nat.beq a b = false := by
    cases e : Nat.beq a b with
    | false => rfl
    | true => exact absurd (Nat.eq_of_beq_eq_true e) h
  simp [updO, this, Nat.beq_refl]
theorem updO_two_ne (a b : Nat) (x y : Option AObj) (o : Ob) {n : Nat} (h : n ≠ a) (h2 : n ≠ b) : updO [(a, x), (b, y)] o n = o n := by
  have e1 : Nat.beq n a = false := by
    cases e : Nat.beq n a with
    | false => rfl
    | true => exact absurd (Nat.eq_of_beq_eq_true e) h
  have e2 : Nat.beq n b = false := by
    cases e : Nat.beq n b with
    | false => rfl
    | true => exact absurd (Nat.eq_of_beq_eq_true e) h2
  simp [updO, e1, e2]

/-- A new row in a new block. -/
structure Pushed (w w' : World) (C : Array Value) (e : TypeId) : Prop where
  new : w'.heap[w.heap.size]? = some (.cells C e (0, 0))
  size : w.heap.size ≤ w'.heap.size
  old : ∀ g, g < w.heap.size → w'.heap[g]? = w.heap[g]?
  os : w'.os = w.os
  tape : w'.tape = w.tape
  output : w'.output = w.output

theorem Pushed.alloc (w : World) (C : Array Value) (e : TypeId) : Pushed w { w with heap := w.heap.push (.cells C e) } C e :=
  ⟨by simp, by simp, fun g hg => by rw [Array.getElem?_push, if_neg (by omega)], rfl, rfl, rfl⟩

/-- A new object in a new block. -/
theorem out_new {f : Phi} {st : St} {a : Act} {w : World} (hr : Rel f st a w) {i : Nat} (hu : st.u i = false) (w' : World) (C : Array Value) (e : TypeId) (hp : Pushed w w' C e)
    (ob : AObj) (l : Loc) (hl : l.blk = some w.heap.size) (v : AV) (r : Value)
    (ht : ∀ own', Keeps w (owns f st.o) w' own' → ObjAt w' (putPhi f (st.nx + 16 * i) l) own' (st.nx + 16 * i) ob)
    (hv : ∀ own', R w' (putPhi f (st.nx + 16 * i) l) own' r v) : Out f st w i v [(st.nx + 16 * i, some ob)] (putPhi f (st.nx + 16 * i) l) w' r := by
  obtain ⟨h1, h2⟩ := hr.fresh hu (b := st.nx + 16 * i) (Nat.le_refl _) (by omega)
  refine out_one hr i _ (st.nx + 16 * i) _ w' (fun _ => False) v r (putPhi_le _ _ _ h1) (fun n hn => putPhi_ne _ _ _ hn) (fun _ _ => ⟨Nat.le_refl _, by omega⟩) hp.size hp.os hp.tape hp.output
    (fun _ h => h.elim) (fun g hg _ => hp.old g hg) (fun n ob hn h => by rwa [updO_one_ne _ _ _ hn] at h) (fun l' g hl' hg => ?_) (fun hk ob' h => ?_) (fun hk => hv _)
  · rw [putPhi_self] at hl'; cases hl'
    rw [hl] at hg; cases hg; exact .inl (Nat.le_refl _)
  · rw [updO_one] at h; cases h; exact ht _ hk

/-- The row of one object is turned in its place. -/
theorem out_row {f : Phi} {st : St} {a : Act} {w : World} (hr : Rel f st a w) (i id : Nat) (ob ob' : AObj) (ho : st.o id = some ob) (g : Nat) (l : Loc) (hl : f id = some l) (hg : l.blk = some g)
    (C : Array Value) (v : AV) (r : Value)
    (ht : ∀ own', Keeps w (owns f st.o) (w.setRow g C) own' → ObjAt (w.setRow g C) f own' id ob') (hv : ∀ own', R (w.setRow g C) f own' r v) :
    Out f st w i v [(id, some ob')] f (w.setRow g C) r := by
  refine out_one hr i _ id f _ (fun k => k = g) v r f.le_refl (fun _ _ => rfl) (fun h1 h2 => absurd h1 h2) (by simp [World.setRow]) rfl rfl rfl
    (fun k hk => ?_) (fun k hk hn => setRow_other w g k C hn) (fun n ob hn h => by rwa [updO_one_ne _ _ _ hn] at h) (fun l' g' hl' hg' => ?_) (fun hk ob'' h => ?_) (fun hk => hv _)
  · subst hk
    refine ⟨⟨id, ob, l, ho, hl, hg⟩, fun n ob2 l2 hn h2 hl2 hg2 => hn ?_⟩
    rw [updO_one_ne _ _ _ hn] at h2
    exact hr.o.inj n id ob2 ob l2 l k h2 ho hl2 hl hg2 hg
  · rw [hl] at hl'; cases hl'
    rw [hg] at hg'; cases hg'
    refine .inr ⟨⟨id, ob, l, ho, hl, hg⟩, fun n ob2 l2 hn h2 hl2 hg2 => hn ?_⟩
    rw [updO_one_ne _ _ _ hn] at h2
    exact hr.o.inj n id ob2 ob l2 l g h2 ho hl2 hl hg2 hg
  · rw [updO_one] at h; cases h; exact ht _ hk

section
variable {P : Program} {T : Tab} {i nx : Nat} {op : Oper} {ρ : Operand → AV} {ob : Ob}

theorem sem_of (v : AV) (wo : List (Nat × Option AObj)) (ro : List Nat)
    (h : ∀ (f : Phi) (st : St) (a : Act) (w : World), Rel f st a w → st.nx = nx → st.u i = false → (∀ x ∈ op.op.operands.toList, st.ev x = ρ x) → (∀ id ∈ ro, st.o id = ob id) →
      ∃ f' w' r, (execOp a.eval op).run P w = .ok (.value r) w' ∧ Out f st w i v wo f' w' r) : SemOp P i op ρ ob nx v wo ro := by
  intro f st a w hr hn hu he ho next Q hk
  obtain ⟨f', w', r, h1, h2⟩ := h f st a w hr hn hu he ho
  unfold Oper.wp
  rw [h1]
  exact hk f' r w' h2

theorem sem_val (v : AV) (ro : List Nat)
    (h : ∀ (f : Phi) (st : St) (a : Act) (w : World), Rel f st a w → (∀ x ∈ op.op.operands.toList, R w f (owns f st.o) (a.eval x) (ρ x)) → (∀ id ∈ ro, st.o id = ob id) →
      ∃ r, (execOp a.eval op).run P w = .ok (.value r) w ∧ R w f (owns f st.o) r v) : SemOp P i op ρ ob nx v [] ro :=
  sem_of v [] ro fun f st a w hr _ _ he ho =>
    let ⟨r, h1, h2⟩ := h f st a w hr (fun x hx => by rw [← he x hx]; exact hr.ev x) ho
    ⟨f, w, r, h1, out_val hr i v r h2⟩

theorem sem_skip (wo : List (Nat × Option AObj)) (ro : List Nat)
    (h : ∀ (f : Phi) (st : St) (a : Act) (w : World), Rel f st a w → (∀ x ∈ op.op.operands.toList, R w f (owns f st.o) (a.eval x) (ρ x)) → (∀ id ∈ ro, st.o id = ob id) →
      ∃ f' w', (execOp a.eval op).run P w = .ok .skip w' ∧ Out f st w i (.tup []) wo f' w' undef) : SemOp P i op ρ ob nx (.tup []) wo ro := by
  intro f st a w hr hn hu he ho next Q hk
  obtain ⟨f', w', h1, h2⟩ := h f st a w hr (fun x hx => by rw [← he x hx]; exact hr.ev x) ho
  unfold Oper.wp
  rw [h1]
  exact hk f' undef w' h2

end
end Go.Proofs.YtbknlijpkabcnaaGreat.K
