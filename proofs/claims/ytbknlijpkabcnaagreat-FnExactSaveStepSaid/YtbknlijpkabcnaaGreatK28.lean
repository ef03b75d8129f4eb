/- How what a row hands over is read as a model. No condition. -/
import Derived.Test.YtbknlijpkabcnaaGreatK27
import Derived.ChangeArms
import Derived.Below
import Derived.OpenShut
namespace Go.Proofs.YtbknlijpkabcnaaGreat.K
open Go

def RL (w : World) (φ : Phi) (own : Nat → Prop) (cs : List Value) (as : List AV) : Prop :=
  cs.length = as.length ∧ ∀ (k : Nat) (v : Value) (c : AV), cs[k]? = some v → as[k]? = some c → R w φ own v c

/-- What is read at a type is read as a model. -/
def Op (P : Program) (t : Nat) {α : Type} (f : α → List AV) (ok : α → Prop) : Prop :=
  ∀ {H : Type} {enc : TypeId × Value → H} {w : World} {spare : Nat → Bool} {held : Bool} {n : Nat} {cs : List Value} {x : DataW H × List MemPlace},
    DataW.trod enc P w 0 spare held n t cs = some x → ∀ (φ : Phi) (own : Nat → Prop), (∀ g, ¬ own g) → ∃ a : α, ok a ∧ RL w φ own cs (f a)

theorem RL.one {w : World} {φ : Phi} {own : Nat → Prop} {v : Value} {c : AV} (h : R w φ own v c) : RL w φ own [v] [c] :=
  ⟨rfl, fun k v' c' h1 h2 => by
    match k, h1, h2 with
    | 0, h1, h2 =>
      rw [List.getElem?_cons_zero, Option.some.injEq] at h1 h2
      rw [← h1, ← h2]; exact h
    | k + 1, h1, _ => simp at h1⟩
theorem RL.nil {w : World} {φ : Phi} {own : Nat → Prop} {cs : List Value} {n : Nat} (h : cs.length = n) : RL w φ own (cs.drop n) [] := by
  rw [List.drop_eq_nil_of_le (by omega)]
  exact ⟨rfl, fun k v c h1 => by simp at h1⟩
theorem RL.cat {w : World} {φ : Phi} {own : Nat → Prop} {cs : List Value} {o n : Nat} {as bs : List AV} (h : RL w φ own ((cs.drop o).take n) as) (hn : as.length = n) (g : RL w φ own (cs.drop (o + n)) bs) :
    RL w φ own (cs.drop o) (as ++ bs) := by
  have e : cs.drop o = (cs.drop o).take n ++ cs.drop (o + n) := by rw [← List.drop_drop, List.take_append_drop]
  rw [e]
  refine ⟨by rw [List.length_append, List.length_append, h.1, g.1], fun k v c h1 h2 => ?_⟩
  rcases Nat.lt_or_ge k n with hk | hk
  · rw [List.getElem?_append_left (by rw [h.1]; omega)] at h1
    rw [List.getElem?_append_left (by omega)] at h2
    exact h.2 k v c h1 h2
  · rw [List.getElem?_append_right (by rw [h.1]; omega), h.1] at h1
    rw [List.getElem?_append_right (by omega)] at h2
    exact g.2 _ v c h1 h2

section
variable {P : Program} {T : Tab} (hT : Tab.Ok P T) {t : Nat} {ti : TI} (ht : T t = some ti)
include hT ht

theorem tab_cells : P.cellsOf t = ti.size := by
  obtain ⟨i, v, h1, h2, _⟩ := (hT t ti ht).info
  unfold Program.cellsOf; rw [h1]; exact h2

theorem Op.int {k : IntKind} (hk : ti.k = .int k) : Op P t (fun n : Int => [.i k n]) (fun n => (Lit.int k n).wf = true) := by
  intro H enc w spare held n cs x h φ own hn
  obtain ⟨d, h1, h2⟩ := (hT t ti ht).desc
  rw [hk] at h2
  cases d <;> try exact h2.elim
  have h2' : k = _ := h2
  subst h2'
  obtain ⟨m, rfl, _, hw⟩ := DataW.trod_int h1 h
  exact ⟨m, hw, .one (.i k m)⟩
theorem Op.byte (hk : ti.k = .int .u8) : Op P t (fun n : UInt8 => [u8 n]) (fun _ => True) := by
  intro H enc w spare held n cs x h φ own hn
  obtain ⟨m, hm, hr⟩ := Op.int hT ht hk h φ own hn
  have hb := Go.bounds_u8 hm
  refine ⟨UInt8.ofNat m.toNat, trivial, ?_⟩
  have e : u8 (UInt8.ofNat m.toNat) = .i .u8 m := by
    unfold u8
    rw [UInt8.toNat_ofNat', Nat.mod_eq_of_lt (by omega)]
    congr 1; omega
  show RL w φ own cs [u8 (UInt8.ofNat m.toNat)]
  rw [e]; exact hr
theorem Op.bool (hk : ti.k = .bool) : Op P t (fun b : Bool => [.p (b = true)]) (fun _ => True) := by
  intro H enc w spare held n cs x h φ own hn
  obtain ⟨d, h1, h2⟩ := (hT t ti ht).desc
  rw [hk] at h2
  cases d <;> try exact h2.elim
  obtain ⟨m, rfl, _⟩ := DataW.trod_bool h1 h
  exact ⟨m, trivial, .one (.p m _ Iff.rfl)⟩
theorem Op.str (hk : ti.k = .str) : Op P t (fun s : List UInt8 => [.s s]) (fun s => s.length ≤ maxLen) := by
  intro H enc w spare held n cs x h φ own hn
  obtain ⟨d, h1, h2⟩ := (hT t ti ht).desc
  rw [hk] at h2
  cases d <;> try exact h2.elim
  obtain ⟨m, rfl, _, hw⟩ := DataW.trod_string h1 h
  have hw' : m.data.toList.length ≤ maxLen := by rw [Array.length_toList]; exact hw
  exact ⟨m.data.toList, hw', .one (by have := R.s (w := w) (f := φ) (own := own) m.data.toList hw'; simpa using this)⟩

theorem Op.slice {α : Type} {e : Nat} {te : TI} (hk : ti.k = .slice e) (he : T e = some te) {g : α → AV} {f : α → List AV} {ok : α → Prop} (ho : Op P e f ok) (hc : ∀ a, (g a).cells = f a)
    (hg : ∀ a, ∀ c ∈ f a, c.good = true) : Op P t (fun l : List α => [.sl te.size (l.map g)]) (fun l => l.length ≤ maxLen ∧ ∀ a ∈ l, ok a) := by
  intro H enc w spare held n cs x h φ own hn
  obtain ⟨d, h1, h2⟩ := (hT t ti ht).desc
  rw [hk] at h2
  have hp := (hT e te he).pos.1
  cases d <;> try exact h2.elim
  have h2' : e = _ := h2
  subst h2'
  rcases DataW.trod_slice h1 h with ⟨rfl, _⟩ | ⟨a, len, cap, elems, rest, m, _, rfl, _, _, hl, hm, hlen, hel, _, _⟩
  · refine ⟨[], ⟨Nat.zero_le _, fun a ha => by cases ha⟩, .one ?_⟩
    exact R.sl none te.size 0 [] (fun _ => .nilFunc) hp (Nat.le_refl _) (Nat.zero_le _) (fun x hx => by cases hx) (fun x hx => by cases hx) (fun k hk => by simp at hk) (fun j i x c hx => by simp at hx)
  · rw [tab_cells hT he] at hel
    have each : ∀ i, i < len → ∃ (b : α) (ds : List Value), ok b ∧ RL w φ own ds (f b) ∧ ds.length = te.size ∧ ∀ j, j < te.size → w.cell? ((a.add (i * te.size)).add j) = ds[j]? := by
      intro i hi
      have hy : elems[i]? = some (elems[i]'(by omega)) := List.getElem?_eq_getElem _
      have hb := (hel i hi).trans hy
      rw [Option.bind_eq_some_iff] at hb
      obtain ⟨ds, hds, ht2⟩ := hb
      obtain ⟨_, q2, q3⟩ := World.cells?_some hds
      obtain ⟨b, hb1, hb2⟩ := ho ht2 φ own hn
      exact ⟨b, ds, hb1, hb2, q2, q3⟩
    have ech : ∀ i : Fin len, ∃ (b : α), ∃ (ds : List Value), ok b ∧ RL w φ own ds (f b) ∧ ds.length = te.size ∧ ∀ j, j < te.size → w.cell? ((a.add (i.1 * te.size)).add j) = ds[j]? := fun i => each i.1 i.2
    obtain ⟨b, hb⟩ := Classical.axiomOfChoice ech
    have hL : (List.ofFn b).length = len := List.length_ofFn
    have hget : ∀ (i : Nat) (y : α), (List.ofFn b)[i]? = some y → ∃ h : i < len, y = b ⟨i, h⟩ := by
      intro i y hy
      obtain ⟨h1, h2⟩ := List.getElem?_eq_some_iff.1 hy
      exact ⟨by omega, by rw [← h2, List.getElem_ofFn]⟩
    have hcl : ∀ a, (f a).length = (g a).cells.length := fun a => by rw [hc]
    refine ⟨List.ofFn b, ⟨by omega, fun y hy => ?_⟩, .one ?_⟩
    · obtain ⟨i, hi⟩ := List.getElem?_of_mem hy
      obtain ⟨q, rfl⟩ := hget i y hi
      obtain ⟨ds, q1, _⟩ := hb ⟨i, q⟩
      exact q1
    · have := R.sl (w := w) (f := φ) (own := own) (some a) te.size cap ((List.ofFn b).map g) (fun k => (w.cell? (a.add k)).getD .nilFunc) hp (by rw [List.length_map]; omega) hm
        (fun x hx => by
          obtain ⟨y, hy, rfl⟩ := List.mem_map.1 hx
          obtain ⟨i, hi⟩ := List.getElem?_of_mem hy
          obtain ⟨q, rfl⟩ := hget i y hi
          obtain ⟨ds, q1, q2, q3, _⟩ := hb ⟨i, q⟩
          rw [hc, ← q2.1, q3])
        (fun x hx c hcx => by
          obtain ⟨y, hy, rfl⟩ := List.mem_map.1 hx
          rw [hc] at hcx
          exact hg y c hcx)
        (fun k hk => by
          rw [List.length_map, hL] at hk
          have hdm := Nat.div_add_mod k te.size
          have hmod := Nat.mod_lt k hp
          have hdiv : k / te.size < len := Nat.div_lt_of_lt_mul (by rw [Nat.mul_comm]; exact hk)
          obtain ⟨ds, q1, q2, q3, q4⟩ := hb ⟨k / te.size, hdiv⟩
          have hx : ds[k % te.size]? = some (ds[k % te.size]'(by omega)) := List.getElem?_eq_getElem _
          have := (q4 (k % te.size) hmod).trans hx
          rw [add_add, show k / te.size * te.size + k % te.size = k by rw [Nat.mul_comm]; exact hdm] at this
          exact ⟨a, rfl, hn _, by rw [this]; rfl⟩)
        (fun j i x c hx hxc => by
          rw [List.getElem?_map, Option.map_eq_some_iff] at hx
          obtain ⟨y, hy, rfl⟩ := hx
          obtain ⟨q, rfl⟩ := hget j y hy
          obtain ⟨ds, q1, q2, q3, q4⟩ := hb ⟨j, q⟩
          rw [hc] at hxc
          have hi : i < te.size := by have := (List.getElem?_eq_some_iff.1 hxc).1; rw [← q2.1] at this; omega
          have hx : ds[i]? = some (ds[i]'(by omega)) := List.getElem?_eq_getElem _
          have := (q4 i hi).trans hx
          rw [add_add] at this
          have hr := q2.2 i _ c hx hxc
          show R w φ own ((w.cell? (a.add (j * te.size + i))).getD .nilFunc) c
          rw [this]; exact hr)
      rw [List.length_map, hL] at this
      exact this

/-- A struct is read field by field. -/
theorem Op.fields {fs : List (Nat × Nat)} (hk : ti.k = .struct fs) {H : Type} {enc : TypeId × Value → H} {w : World} {spare : Nat → Bool} {held : Bool} {n : Nat} {cs : List Value} {x : DataW H × List MemPlace}
    (h : DataW.trod enc P w 0 spare held n t cs = some x) : cs.length = ti.size ∧ ∃ m, ∀ (i : Nat) (q : Nat × Nat), fs[i]? = some q → ∃ y, DataW.trod enc P w 0 spare held m q.2 ((cs.drop q.1).take (P.cellsOf q.2)) = some y := by
  obtain ⟨d, h1, h2⟩ := (hT t ti ht).desc
  rw [hk] at h2
  cases d <;> try exact h2.elim
  rename_i gs
  obtain ⟨h2, _⟩ := h2
  obtain ⟨xs, m, _, _, hl, hx, hf⟩ := DataW.trod_struct h1 h
  rw [tab_cells hT ht] at hl
  refine ⟨hl, m, fun i q hq => ?_⟩
  have hq2 : (gs.toList.map fun g => (g.offset, g.type))[i]? = some q := by rw [h2]; exact hq
  rw [List.getElem?_map, Option.map_eq_some_iff] at hq2
  obtain ⟨f, hf1, rfl⟩ := hq2
  rw [Array.getElem?_toList] at hf1
  have hi : i < xs.length := by have := (Array.getElem?_eq_some_iff.1 hf1).1; omega
  exact ⟨_, (hf i f hf1).trans (List.getElem?_eq_getElem hi)⟩

end

theorem good_all {α : Type} {f : α → List AV} (h : ∀ a, (f a).all AV.good = true) : ∀ a, ∀ c ∈ f a, c.good = true := fun a => List.all_eq_true.1 (h a)
/-- A struct is handed over as its cells. -/
theorem R.of_agg {w : World} {φ : Phi} {own : Nat → Prop} {a : Array Value} {as : List AV} (h : RL w φ own a.toList as) : R w φ own (.agg a) (.agg as) := by
  have := R.agg (w := w) (f := φ) (own := own) a.toList as h.1 h.2
  simpa using this
theorem R.of_one {w : World} {φ : Phi} {own : Nat → Prop} {v : Value} {a : AV} (h : RL w φ own [v] [a]) : R w φ own v a := h.2 0 v a rfl rfl

def phi0 : Phi := ⟨fun _ => none, fun _ => False⟩
theorem not_owns0 (g : Nat) : ¬ owns phi0 (fun j => ([] : List AObj)[j]?) g := by
  rintro (⟨id, ob, l, h, _⟩ | h)
  · simp at h
  · exact h

/-- A law that a contract tells of, called with what a row hands over. -/
theorem calls_law {P : Program} {f : FuncId} {fn : Func} {body : Code} {args : List AV} {q : Prop} (hf : P.funcs[f]? = some fn) (hb : fn.body = some body) (hn : (fn.name == "runtime.NumGoroutine") = false)
    (h : Con P f args [] (.p q) []) (hq : q) (w : World) (vs : List Value) (hl : vs.length = args.length)
    (hR : ∀ (k : Nat) (v : Value) (c : AV), vs[k]? = some v → args[k]? = some c → R w phi0 (owns phi0 fun j => ([] : List AObj)[j]?) v c) :
    Calls P f vs.toArray w fun e w' => e = .returned (.bool true) ∧ Go.RowKit.Below w.heap.size w w' := by
  have hn' : fn.name ≠ "runtime.NumGoroutine" := by intro e; rw [e] at hn; simp at hn
  have hrun : (callFunc f vs.toArray).run P w = .ok (.enter f vs.toArray) w := by simp [callFunc, hf, hn', hb]
  have ho : ORel phi0 (fun j => ([] : List AObj)[j]?) w := ⟨fun id ob hx => by simp at hx, fun g ⟨id, ob, l, hx, _⟩ => by simp at hx, fun id id' ob ob' l l' g hx => by simp at hx⟩
  rcases h phi0 w vs ho (fun g hg => hg.elim) (fun j _ => rfl) hl hR with ⟨_, hc⟩ | ⟨v, w', hv, _⟩
  · refine hc.mono ?_
    rintro e w' ⟨v, rfl, φ', _, _, hr, hfr, _⟩
    cases hr with
    | p x q' hx =>
      have : x = true := hx.2 hq
      subst this
      refine ⟨rfl, hfr.os, hfr.tape, hfr.output, hfr.size, fun k hk => hfr.keep k hk ?_⟩
      rintro ⟨id, ob, l, hx, _⟩
      simp at hx
  · rw [hrun] at hv; cases hv

end Go.Proofs.YtbknlijpkabcnaaGreat.K
