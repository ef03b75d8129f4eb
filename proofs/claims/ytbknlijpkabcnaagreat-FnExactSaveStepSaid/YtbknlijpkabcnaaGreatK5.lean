/- The operations that turn no world. No condition. -/
import Derived.Test.YtbknlijpkabcnaaGreatK4
namespace Go.Proofs.YtbknlijpkabcnaaGreat.K
open Go

section inv
variable {w : World} {f : Phi} {own : Nat → Prop} {v : Value}
theorem R.b_inv {x : Bool} (h : R w f own v (.b x)) : v = .bool x := by cases h; rfl
theorem R.p_inv {q : Prop} (h : R w f own v (.p q)) : ∃ x : Bool, v = .bool x ∧ (x = true ↔ q) := by cases h; exact ⟨_, rfl, by assumption⟩
theorem R.i_inv {k : IntKind} {n : Int} (h : R w f own v (.i k n)) : v = .int k n := by cases h; rfl
theorem R.s_inv {l : List UInt8} (h : R w f own v (.s l)) : v = .string ⟨l.toArray⟩ ∧ l.length ≤ maxLen := by cases h; exact ⟨rfl, by assumption⟩
theorem R.nil_inv (h : R w f own v .nil) : v = .slice none 0 0 := by cases h; rfl
theorem R.ni_inv (h : R w f own v .ni) : v = .nilIface := by cases h; rfl
theorem R.ptr_inv {id off : Nat} (h : R w f own v (.ptr id off)) : ∃ g cap z n, f id = some ⟨some g, cap, z, n⟩ ∧ v = .pointer (some ⟨g, off, none⟩) := by
  cases h; exact ⟨_, _, _, _, by assumption, rfl⟩
theorem R.ep_inv {id n off : Nat} (h : R w f own v (.ep id n off)) : ∃ g cap z m, f id = some ⟨some g, cap, z, m⟩ ∧ v = .pointer (some ⟨g, n * z + off, none⟩) := by
  cases h; exact ⟨_, _, _, _, by assumption, rfl⟩
end inv

theorem obx {q A : Prop} (h : OB q A) : q ∧ A := ⟨h.1, h.2⟩

/-- The elements of an object, over its row. -/
theorem arr_row {w : World} {f : Phi} {own : Nat → Prop} {id z : Nat} {xs : List AV} (h : ObjAt w f own id (.arr z xs)) (hx : 0 < xs.length) :
    ∃ (g cap : Nat) (cur : Array Value) (e : TypeId), f id = some ⟨some g, cap, z, xs.length⟩ ∧ w.heap[g]? = some (.cells cur e (0, 0)) ∧ cur.size = cap * z ∧ xs.length ≤ cap ∧ cap ≤ maxLen ∧
      El (R w f own) z cur.toList xs ∧ ∀ x ∈ xs, ∀ c ∈ x.cells, c.good = true := by
  rcases h with ⟨_, ⟨_, h2⟩ | ⟨g, cap, cur, e, h1, h2, h3, h4, h5, h6, h7, h8⟩⟩
  · subst h2; simp at hx
  · refine ⟨g, cap, cur, e, h1, h2, h3, h4, h5, ⟨h6, ?_, ?_⟩, h7⟩
    · show xs.length * z ≤ cur.size; rw [h3]; exact Nat.mul_le_mul_right z h4
    · intro j i x c hj hc
      obtain ⟨u, hu, hr⟩ := h8 j i x c hj hc
      exact ⟨u, by rw [Array.getElem?_toList]; exact hu, hr⟩

/-- A slice's value, of an object: its length. -/
theorem own_len {w : World} {f : Phi} {own : Nat → Prop} {v : Value} {id z : Nat} {xs : List AV} (h : R w f own v (.own id)) (ho : ObjAt w f own id (.arr z xs)) :
    ∃ a c, v = .slice a xs.length c ∧ xs.length ≤ c ∧ c ≤ maxLen := by
  rcases ho with ⟨_, ⟨h1, h2⟩ | ⟨g, cap, cur, e, h1, h2, h3, h4, h5, _⟩⟩
  · subst h2
    cases h with
    | own0 => exact ⟨none, 0, rfl, Nat.zero_le _, Nat.zero_le _⟩
    | own _ g' cap' z' n' h' => rw [h1] at h'; cases h'
  · cases h with
    | own0 _ z' h' => rw [h1] at h'; cases h'
    | own _ g' cap' z' n' h' => rw [h1] at h'; cases h'; exact ⟨_, _, rfl, h4, h5⟩

theorem ref_len {w : World} {f : Phi} {own : Nat → Prop} {v : Value} {id lo len z : Nat} {xs : List AV} (h : R w f own v (.ref id lo len)) (ho : ObjAt w f own id (.arr z xs)) :
    ∃ a c, v = .slice a len c ∧ len ≤ c ∧ c ≤ maxLen ∧ lo + len ≤ xs.length := by
  rcases ho with ⟨_, ⟨h1, h2⟩ | ⟨g, cap, cur, e, h1, h2, h3, h4, h5, _⟩⟩
  · subst h2
    cases h with
    | ref0 => exact ⟨none, 0, rfl, Nat.zero_le _, Nat.zero_le _, Nat.zero_le _⟩
    | ref _ _ _ g' cap' z' n' ad h' => rw [h1] at h'; cases h'
  · cases h with
    | ref0 _ z' h' => rw [h1] at h'; cases h'
    | ref _ _ _ g' cap' z' n' ad h' hl hb => rw [h1] at h'; cases h'; exact ⟨_, _, rfl, by omega, by omega, hl⟩

/-- A slice that reads: its length. -/
theorem cont_len {f : Phi} {st : St} {a : Act} {w : World} (hr : Rel f st a w) {v : Value} {x : AV} {xs : List AV} (h : R w f (owns f st.o) v x) (hc : cont st.o x = some xs) :
    ∃ ad c, v = .slice ad xs.length c ∧ xs.length ≤ c ∧ c ≤ maxLen := by
  cases x with
  | nil => simp [cont] at hc; subst hc; cases h; exact ⟨none, 0, rfl, Nat.le_refl _, Nat.zero_le _⟩
  | e0 => simp [cont] at hc; subst hc; cases h; exact ⟨_, 0, rfl, Nat.le_refl _, Nat.zero_le _⟩
  | sl z ys => simp [cont] at hc; subst hc; cases h; exact ⟨_, _, rfl, by assumption, by assumption⟩
  | own id =>
    simp only [cont] at hc
    split at hc
    · rename_i z ys ho; cases hc; exact own_len h (hr.o.at_ _ _ ho)
    · cases hc
  | ref id lo len =>
    simp only [cont] at hc
    split at hc
    · rename_i z ys ho
      cases hc
      obtain ⟨ad, c, h1, h2, h3, h4⟩ := ref_len h (hr.o.at_ _ _ ho)
      have : ((ys.drop lo).take len).length = len := by rw [List.length_take, List.length_drop]; omega
      rw [this]; exact ⟨ad, c, h1, h2, h3⟩
    · cases hc
  | _ => simp [cont] at hc

theorem cont_ids {o o' : Ob} {x : AV} (h : ∀ id ∈ idsC x, o' id = o id) : cont o' x = cont o x := by
  cases x <;> simp_all [cont, idsC]

section
variable {P : Program} {T : Tab} {i nx : Nat} {op : Oper} {ρ : Operand → AV} {o : Ob} {K : Kont}

/-- What an operation's condition gives. -/
def Gives (P : Program) (i : Nat) (op : Oper) (ρ : Operand → AV) (o : Ob) (nx : Nat) (K : Kont) : Prop :=
  ∃ v wo ro, K v wo ro ∧ SemOp P i op ρ o nx v wo ro ∧ ∀ x ∈ wo, x.1 ∈ ro ∨ (nx + 16 * i ≤ x.1 ∧ x.1 < nx + 16 * i + 16)

theorem gives_val (v : AV) (ro : List Nat) (hk : K v [] ro)
    (h : ∀ (f : Phi) (st : St) (a : Act) (w : World), Rel f st a w → (∀ x ∈ op.op.operands.toList, R w f (owns f st.o) (a.eval x) (ρ x)) → (∀ id ∈ ro, st.o id = o id) →
      ∃ r, (execOp a.eval op).run P w = .ok (.value r) w ∧ R w f (owns f st.o) r v) : Gives P i op ρ o nx K :=
  ⟨v, [], ro, hk, sem_val v ro h, fun x hx => by simp at hx⟩

theorem gives_move (x : Operand) (hop : op.op = .move x ∨ op.op = .assign x) (hk : K (ρ x) [] []) : Gives P i op ρ o nx K := by
  refine gives_val _ [] hk fun f st a w hr he _ => ⟨a.eval x, ?_, he x ?_⟩
  · rcases hop with hop | hop <;> simp [execOp, hop]
  · rcases hop with hop | hop <;> simp [hop, Op.operands]

theorem gives_pick (c x y : Operand) (hop : op.op = .pick c x y)
    (h : match ρ c with | .b t => BS t (K (ρ x) [] []) (K (ρ y) [] []) | .p q => PS q (K (ρ x) [] []) (K (ρ y) [] []) | _ => False) : Gives P i op ρ o nx K := by
  have hm : ∀ z, z ∈ op.op.operands.toList ↔ z = c ∨ z = x ∨ z = y := by intro z; simp [hop, Op.operands]
  have hrun : ∀ (a : Act) (w : World) (t : Bool), a.eval c = .bool t → (execOp a.eval op).run P w = .ok (.value (if t then a.eval x else a.eval y)) w := by
    intro a w t ht; simp [execOp, hop, ht, asBool]
  split at h
  · rename_i t ht
    cases t with
    | true =>
      refine gives_val _ [] h fun f st a w hr he _ => ⟨_, hrun a w true ?_, he x ((hm x).2 (.inr (.inl rfl)))⟩
      have := he c ((hm c).2 (.inl rfl)); rw [ht] at this; exact this.b_inv
    | false =>
      refine gives_val _ [] h fun f st a w hr he _ => ⟨_, hrun a w false ?_, he y ((hm y).2 (.inr (.inr rfl)))⟩
      have := he c ((hm c).2 (.inl rfl)); rw [ht] at this; exact this.b_inv
  · rename_i q hq
    by_cases hqq : q
    · refine gives_val _ [] (h.1 hqq) fun f st a w hr he _ => ⟨_, hrun a w true ?_, he x ((hm x).2 (.inr (.inl rfl)))⟩
      have := he c ((hm c).2 (.inl rfl)); rw [hq] at this
      obtain ⟨b, h1, h2⟩ := this.p_inv
      rw [h1, h2.2 hqq]
    · refine gives_val _ [] (h.2 hqq) fun f st a w hr he _ => ⟨_, hrun a w false ?_, he y ((hm y).2 (.inr (.inr rfl)))⟩
      have := he c ((hm c).2 (.inl rfl)); rw [hq] at this
      obtain ⟨b, h1, h2⟩ := this.p_inv
      rw [h1]
      cases b with
      | false => rfl
      | true => exact absurd (h2.1 rfl) hqq
  · exact h.elim

theorem gives_nilCheck (x : Operand) (hop : op.op = .nilCheck x)
    (h : match ρ x with | .ptr id off => K (.ptr id off) [] [] | .ep id n off => K (.ep id n off) [] [] | .rp cs => K (.rp cs) [] [] | .fn (.func g) a c => K (.fn (.func g) a c) [] [] | _ => False) :
    Gives P i op ρ o nx K := by
  have hm : x ∈ op.op.operands.toList := by simp [hop, Op.operands]
  split at h
  · rename_i id off hx
    refine gives_val _ [] h fun f st a w hr he _ => ?_
    have := he x hm; rw [hx] at this
    obtain ⟨g, cap, z, n, h1, h2⟩ := this.ptr_inv
    exact ⟨_, by simp [execOp, hop, h2], .ptr _ _ _ _ _ _ h1⟩
  · rename_i id n off hx
    refine gives_val _ [] h fun f st a w hr he _ => ?_
    have := he x hm; rw [hx] at this
    obtain ⟨g, cap, z, n, h1, h2⟩ := this.ep_inv
    exact ⟨_, by simp [execOp, hop, h2], .ep _ _ _ _ _ _ _ h1⟩
  · rename_i cs hx
    refine gives_val _ [] h fun f st a w hr he _ => ?_
    have h3 := he x hm; rw [hx] at h3
    have h4 := h3
    generalize hv : a.eval x = v at h3 h4
    cases h3
    exact ⟨_, by simp [execOp, hop, hv], h4⟩
  · rename_i g a' c' hx
    refine gives_val _ [] h fun f st a w hr he _ => ?_
    have h3 := he x hm; rw [hx] at h3
    have h4 := h3
    generalize hv : a.eval x = v at h3 h4
    cases h3
    exact ⟨_, by simp [execOp, hop, hv], h4⟩
  · exact h.elim

theorem gives_extract (x : Operand) (n : Nat) (hop : op.op = .extract x n) (vs : List AV) (hx : ρ x = .tup vs) (v : AV) (hv : vs[n]? = some v) (h : K v [] []) : Gives P i op ρ o nx K := by
  refine gives_val _ [] h fun f st a w hr he _ => ?_
  have h3 := he x (by simp [hop, Op.operands]); rw [hx] at h3
  generalize hv : a.eval x = u at h3
  cases h3 with
  | tup us _ hl hR =>
    have hlt : n < us.length := by rw [hl]; exact (List.getElem?_eq_some_iff.1 (by assumption)).1
    refine ⟨us[n], ?_, hR n _ _ (List.getElem?_eq_getElem hlt) (by assumption)⟩
    simp [execOp, hop, hv, Instr.extract, hlt]

theorem gives_makeFunc (fn : Fn) (fi ca : Array Operand) (hop : op.op = .makeFunc fn fi ca) (h : K (.fn fn (fi.toList.map ρ) (ca.toList.map ρ)) [] []) : Gives P i op ρ o nx K := by
  refine gives_val _ [] h fun f st a w hr he _ => ?_
  have hm : ∀ x, x ∈ fi.toList ∨ x ∈ ca.toList → x ∈ op.op.operands.toList := by intro x hx; simp [hop, Op.operands]; simpa using hx
  refine ⟨.func fn (fi.toList.map a.eval).toArray (ca.toList.map a.eval).toArray, ?_, .fn _ _ _ _ _ (by simp) (by simp) (fun k v c hv hc => ?_) (fun k v c hv hc => ?_)⟩
  · simp [execOp, hop, Instr.makeFunc]
    constructor <;> (apply Array.ext'; simp)
  · rw [List.getElem?_map] at hv hc
    cases hx : fi.toList[k]? with
    | none => rw [hx] at hv; cases hv
    | some x => rw [hx] at hv hc; cases hv; cases hc; exact he x (hm x (.inl (List.mem_of_getElem? hx)))
  · rw [List.getElem?_map] at hv hc
    cases hx : ca.toList[k]? with
    | none => rw [hx] at hv; cases hv
    | some x => rw [hx] at hv hc; cases hv; cases hc; exact he x (hm x (.inr (List.mem_of_getElem? hx)))

theorem gives_makeInterface (t : Nat) (x : Operand) (hop : op.op = .makeInterface t x) (hT : T.Ok P) (ti : TI) (ht : T t = some ti) (hi : ti.k ≠ .iface) (h : K (.ifc t (ρ x)) [] []) :
    Gives P i op ρ o nx K := by
  refine gives_val _ [] h fun f st a w hr he _ => ⟨.iface t (a.eval x), ?_, .ifc _ _ _ (he x (by simp [hop, Op.operands]))⟩
  obtain ⟨d, h1, h2, h3⟩ := (hT t ti ht).und w
  have : ∀ ms, d ≠ .interface ms := fun ms e => by
    subst e
    cases hk : ti.k <;> rw [hk] at h3 <;> first | exact h3.elim | exact hi hk
  cases d <;> first | exact absurd rfl (this _) | simp [execOp, hop, Instr.makeInterface, h2]

theorem gives_fieldAddr (s : Nat) (x : Operand) (n : Nat) (hop : op.op = .fieldAddr s x n) (hT : T.Ok P) (ti : TI) (ht : T s = some ti) (fs : List (Nat × Nat)) (hk : ti.k = .struct fs)
    (fo ft : Nat) (hf : fs[n]? = some (fo, ft))
    (h : match ρ x with | .ptr id off => K (.ptr id (off + fo)) [] [] | .ep id m off => K (.ep id m (off + fo)) [] [] | .rp cs => K (.rp (cs.drop fo)) [] [] | _ => False) : Gives P i op ρ o nx K := by
  have hm : x ∈ op.op.operands.toList := by simp [hop, Op.operands]
  have hrun : ∀ (a : Act) (w : World) (ad : Addr), a.eval x = .pointer (some ad) → (execOp a.eval op).run P w = .ok (.value (.pointer (some (ad.add fo)))) w := by
    intro a w ad hv
    obtain ⟨d, h1, h2, h3⟩ := (hT s ti ht).und w
    rw [hk] at h3
    cases d <;> first | exact h3.elim | skip
    rename_i gs
    obtain ⟨h4, h5⟩ := h3
    rw [← h4, List.getElem?_map] at hf
    cases hg : gs.toList[n]? with
    | none => rw [hg] at hf; cases hf
    | some g =>
      rw [hg] at hf
      simp only [Option.map_some, Option.some.injEq, Prod.mk.injEq] at hf
      obtain ⟨i', hi, hi0⟩ := h5 g (List.mem_of_getElem? hg)
      have hg' : gs[n]? = some g := by rw [← Array.getElem?_toList]; exact hg
      simp [execOp, hop, Instr.fieldAt, h2, hg', hv, Instr.sureAddr, fieldPlace, sizeOf, typeInfo, hi, hi0, hf.1]
  split at h
  · rename_i id off hx
    refine gives_val _ [] h fun f st a w hr he _ => ?_
    have := he x hm; rw [hx] at this
    obtain ⟨g, cap, z, n', h1, h2⟩ := this.ptr_inv
    exact ⟨_, hrun a w _ h2, by rw [add_mk]; exact .ptr _ _ _ _ _ _ h1⟩
  · rename_i id m off hx
    refine gives_val _ [] h fun f st a w hr he _ => ?_
    have := he x hm; rw [hx] at this
    obtain ⟨g, cap, z, n', h1, h2⟩ := this.ep_inv
    exact ⟨_, hrun a w _ h2, by rw [add_mk, Nat.add_assoc]; exact .ep _ _ _ _ _ _ _ h1⟩
  · rename_i cs hx
    refine gives_val _ [] h fun f st a w hr he _ => ?_
    have h3 := he x hm; rw [hx] at h3
    generalize hv : a.eval x = v at h3
    cases h3 with
    | rp ad _ val hp hcell hR =>
      refine ⟨_, hrun a w ad hv, .rp _ _ (fun k => val (fo + k)) (fun c hc => hp c (List.mem_of_mem_drop hc)) (fun k hk => ?_) (fun k c hc => ?_)⟩
      · rw [List.length_drop] at hk
        rw [add_block, add_add]; exact hcell _ (by omega)
      · rw [List.getElem?_drop] at hc; exact hR _ c hc
  · exact h.elim

/-- What a part of an aggregate reads as. -/
theorem run_part (hT : T.Ok P) (t : Nat) (ti : TI) (ht : T t = some ti) (vs : List Value) (cs : List AV) (off : Nat) {w : World} {f : Phi} {own : Nat → Prop}
    (hr : Pw (R w f own) vs cs) (hl : off + ti.size ≤ cs.length) : ∃ r, (part t vs.toArray off).run P w = .ok r w ∧ R w f own r (mkv ti (cs.drop off)) := by
  have ok := hT t ti ht
  have hone := ok.one
  have hpos := ok.pos.1
  simp only [part, Sem.run_bind, ok.run_isAgg w, Result.andThen_ok]
  unfold mkv
  cases hk : ti.k with
  | struct fs =>
    simp only [if_true]
    refine ⟨.agg ((vs.drop off).take ti.size).toArray, by simp [ok.run_sizeOf w], ?_⟩
    have := (hr.drop off).take ti.size
    exact .agg _ _ this.1 this.2
  | _ =>
    simp only [if_false, Bool.false_eq_true]
    rw [hk] at hone
    simp only at hone
    have hlt : off < cs.length := by omega
    have hlt' : off < vs.length := by rw [hr.1]; exact hlt
    rw [List.drop_eq_getElem_cons hlt]
    exact ⟨vs[off], by simp [hlt'], hr.2 off _ _ (List.getElem?_eq_getElem hlt') (List.getElem?_eq_getElem hlt)⟩

theorem gives_field (s : Nat) (x : Operand) (n : Nat) (hop : op.op = .field s x n) (hT : T.Ok P) (ti : TI) (ht : T s = some ti) (fs : List (Nat × Nat)) (hk : ti.k = .struct fs)
    (fo ft : Nat) (hf : fs[n]? = some (fo, ft)) (tf : TI) (htf : T ft = some tf) (cs : List AV) (hx : ρ x = .agg cs) (hl : fo + tf.size ≤ cs.length)
    (h : K (mkv tf (cs.drop fo)) [] []) : Gives P i op ρ o nx K := by
  refine gives_val _ [] h fun f st a w hr he _ => ?_
  have h3 := he x (by simp [hop, Op.operands]); rw [hx] at h3
  generalize hv : a.eval x = v at h3
  cases h3 with
  | agg vs _ hlv hR =>
    obtain ⟨r, hr1, hr2⟩ := run_part hT ft tf htf vs cs fo ⟨hlv, hR⟩ hl
    refine ⟨r, ?_, hr2⟩
    obtain ⟨d, h1, h2, h3⟩ := (hT s ti ht).und w
    rw [hk] at h3
    cases d <;> first | exact h3.elim | skip
    rename_i gs
    obtain ⟨h4, h5⟩ := h3
    rw [← h4, List.getElem?_map] at hf
    cases hg : gs.toList[n]? with
    | none => rw [hg] at hf; cases hf
    | some g =>
      rw [hg] at hf
      simp only [Option.map_some, Option.some.injEq, Prod.mk.injEq] at hf
      have hg' : gs[n]? = some g := by rw [← Array.getElem?_toList]; exact hg
      rw [← hf.1, ← hf.2] at hr1
      simp [execOp, hop, Instr.field, h2, hg', hv, asAgg, hr1]

theorem u8_cells (l : List UInt8) : ∀ x ∈ l.map u8, x.cells.length = 1 ∧ ∀ c ∈ x.cells, c.good = true := by
  intro x hx
  obtain ⟨c, _, rfl⟩ := List.mem_map.1 hx
  exact ⟨rfl, fun d hd => by simp [u8, AV.cells] at hd; subst hd; rfl⟩

theorem gives_index (t : Nat) (x ix : Operand) (hop : op.op = .index t x ix) (hT : T.Ok P) (ti : TI) (ht : T t = some ti) (hk : ti.k = .str) (l : List UInt8) (hx : ρ x = .s l) (k : IntKind) (n : Int)
    (hn : ρ ix = .i k n) (h0 : 0 ≤ n) (c : UInt8) (hc : l[n.toNat]? = some c) (h : K (u8 c) [] []) : Gives P i op ρ o nx K := by
  refine gives_val _ [] h fun f st a w hr he _ => ⟨.int .u8 c.toNat, ?_, .i _ _⟩
  have h1 := he x (by simp [hop, Op.operands]); rw [hx] at h1
  have h2 := he ix (by simp [hop, Op.operands]); rw [hn] at h2
  have h3 := h1.s_inv.1; have h4 := h2.i_inv
  obtain ⟨d, h5, h6, h7⟩ := (hT t ti ht).und w
  rw [hk] at h7
  cases d <;> first | exact h7.elim | skip
  have hb : (⟨l.toArray⟩ : ByteArray)[n.toNat]? = some c := by
    have hlt := (List.getElem?_eq_some_iff.1 hc).1
    have e : (⟨l.toArray⟩ : ByteArray).size = l.length := rfl
    rw [getElem?_pos _ _ (by rw [e]; exact hlt)]
    have : (⟨l.toArray⟩ : ByteArray)[n.toNat]'(by rw [e]; exact hlt) = l[n.toNat] := rfl
    rw [this]; rw [List.getElem?_eq_getElem hlt] at hc; exact hc
  simp [execOp, hop, Instr.index, h3, h4, asIntOf, h6, h0, hb]

end
end Go.Proofs.YtbknlijpkabcnaaGreat.K
