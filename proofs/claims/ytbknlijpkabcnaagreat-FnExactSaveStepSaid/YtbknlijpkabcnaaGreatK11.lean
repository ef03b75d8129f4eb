/- make, append, reslicing. No condition. -/
import Derived.Test.YtbknlijpkabcnaaGreatK10
namespace Go.Proofs.YtbknlijpkabcnaaGreat.K
open Go

section
variable {P : Program} {T : Tab} {i nx : Nat} {op : Oper} {ρ : Operand → AV} {o : Ob} {K : Kont}

theorem gives_makeSlice (t : Nat) (l c : Operand) (hop : op.op = .makeSlice t l c) (hT : T.Ok P) (ti : TI) (ht : T t = some ti) (e : Nat) (hk : ti.k = .slice e) (te : TI) (hte : T e = some te)
    (k k' : IntKind) (n m : Int) (hl : ρ l = .i k n) (hc : ρ c = .i k' m) (h0 : 0 ≤ n) (h1 : n ≤ m) (h2 : m * te.bytes ≤ 140737488355328)
    (h : K (.own (nx + 16 * i)) [(nx + 16 * i, some (.arr te.size (List.replicate n.toNat te.zero)))] []) : Gives P i op ρ o nx K := by
  refine Gives.mk_new _ _ h (sem_of _ _ _ fun f st a w hr hn hu he ho => ?_)
  subst hn
  have oke := hT e te hte
  obtain ⟨it, v, i1, i2, i3, i4, i5, i6⟩ := oke.info
  have hz2 := oke.zero
  have hpos := oke.pos
  have e1 : a.eval l = .int k n := by have := hr.ev l; rw [he l (by simp [hop, Op.operands]), hl] at this; exact this.i_inv
  have e2 : a.eval c = .int k' m := by have := hr.ev c; rw [he c (by simp [hop, Op.operands]), hc] at this; exact this.i_inv
  have hm1 : m ≤ m * te.bytes := by
    have : (1 : Int) ≤ te.bytes := by omega
    have := Int.mul_le_mul_of_nonneg_left this (show 0 ≤ m by omega)
    omega
  have hmake := run_make (P := P) w t e it v (TI.Ok.und_slice hT ht hk) i1 i4 k k' n m h0 h1 (by rw [i3, Int.mul_comm]; omega) (by omega)
  rw [i2] at hmake
  have hR := R.ofVal w f (owns f st.o) v
  rw [i5] at hR
  have hbr := hR.box_row hz2.1
  refine ⟨putPhi f (st.nx + 16 * i) ⟨some w.heap.size, m.toNat, te.size, n.toNat⟩, _, .slice (some ⟨w.heap.size, 0, none⟩) n.toNat m.toNat, by simp [execOp, hop, e1, e2, hmake]; rfl,
    out_new hr hu _ _ e (Pushed.alloc w _ e) _ _ rfl _ _ (fun own' hkk => ?_) (fun own' => .own _ _ _ _ _ (putPhi_self _ _ _))⟩
  have hfr := (hr.fresh hu (b := st.nx + 16 * i) (Nat.le_refl _) (by omega)).1
  have hel : El (R w f (owns f st.o)) te.size (madeCells v.cells (m.toNat * te.size)).toList (List.replicate m.toNat te.zero) := El.zeros m.toNat te.size v.cells te.zero hpos.1 i6 hz2.2.1 hbr.2
  refine ⟨hpos.1, .inr ⟨w.heap.size, m.toNat, _, e, by rw [List.length_replicate]; exact putPhi_self _ _ _, (Pushed.alloc w _ e).new, size_madeCells _ _, by rw [List.length_replicate]; omega, by simp only [maxLen]; omega,
    fun x hx => by rw [List.mem_replicate] at hx; rw [hx.2]; exact hz2.2.1, fun x hx d hd => by rw [List.mem_replicate] at hx; rw [hx.2] at hd; exact hz2.2.2 d hd, fun j q x d hj hd => ?_⟩⟩
  rw [List.getElem?_replicate] at hj
  split at hj
  · obtain ⟨u, hu', hru⟩ := hel.at_ j q x d (by rw [List.getElem?_replicate, if_pos (by omega)]; exact hj) hd
    exact ⟨u, by simpa using hu', hru.mono (putPhi_le _ _ _ hfr) hkk⟩
  · cases hj

/-- The first cells of what is appended. -/
theorem run_news {f : Phi} {st : St} {a : Act} {w : World} (hr : Rel f st a w) {v : Value} {x : AV} {ys : List AV} (h : R w f (owns f st.o) v x) (hc : cont st.o x = some ys) (z : Nat) (h0 : 0 < z)
    (hz : ∀ y ∈ ys, y.cells.length = z) :
    ∃ ad c news, v = .slice ad ys.length c ∧ news.length = ys.length * z ∧ El (R w f (owns f st.o)) z news ys ∧ (∀ y ∈ ys, ∀ c ∈ y.cells, c.good = true) ∧ (∀ u ∈ news, u.oneCell' = true) ∧
      ∀ w', (∀ a0 u, w.cell? a0 = some u → w'.cell? a0 = some u) → (Builtin.firstCells z ys.length v).run P w' = .ok news.toArray w' := by
  obtain ⟨ad, c, h1, _, _, h2, h3⟩ := cont_cells hr h hc z hz
  rcases h3 with (h3 | h3) | ⟨a0, news, h3, h4, h5, h6⟩
  · subst h3
    refine ⟨ad, c, [], h1, by simp, ⟨fun y hy => by simp at hy, by simp, fun j q y c hj => by simp at hj⟩, h2, fun u hu => by simp at hu, fun w' _ => ?_⟩
    subst h1
    cases ad with
    | none => simp [Builtin.firstCells]
    | some a0 => simpa using run_firstCells_some (P := P) w' z 0 a0 0 c [] (by simp) (fun j v hj => by simp at hj)
  · omega
  · subst h3; subst h1
    refine ⟨some a0, c, news, rfl, h4, h6, h2, fun u hu => ?_, fun w' hw' => run_firstCells_some (P := P) w' z ys.length a0 ys.length c news h4 fun j v hj => hw' _ _ (h5 j v hj)⟩
    obtain ⟨k, hk, rfl⟩ := List.mem_iff_getElem.1 hu
    rw [h4] at hk
    -- the cell k is cell k % z of element k / z
    have hj : k / z < ys.length := (Nat.div_lt_iff_lt_mul h0).2 hk
    have hq : k % z < z := Nat.mod_lt _ h0
    have hy : ys[k / z]? = some ys[k / z] := List.getElem?_eq_getElem hj
    have hcl := hz ys[k / z] (List.getElem_mem hj)
    obtain ⟨u, hu1, hu2⟩ := h6.at_ (k / z) (k % z) ys[k / z] (ys[k / z].cells[k % z]'(by omega)) hy (List.getElem?_eq_getElem (by omega))
    have e : k / z * z + k % z = k := by rw [Nat.mul_comm]; exact Nat.div_add_mod k z
    rw [e] at hu1
    have : news[k]? = some news[k] := List.getElem?_eq_getElem (by rw [h4]; exact hk)
    rw [this] at hu1
    cases hu1
    exact hu2.one (AV.good.one (h2 _ (List.getElem_mem hj) _ (List.getElem_mem (by omega))))

theorem run_append_grown (w : World) (t ty e : TypeId) (it : TypeInfo) (z : Value) (ht : P.underlying t = some (.slice e)) (hi : P.info? e = some it) (hz : it.zero = some z) (hb : it.bytes ≠ 0)
    (base : Option Addr) (n cap m : Nat) (x : Value) (ad : Option Addr) (c : Nat) (hx : x = .slice ad m c) (olds news : Array Value)
    (hold : (Builtin.firstCells it.size n (.slice base n cap)).run P w.drew = .ok olds w.drew) (hnew : (Builtin.firstCells it.size m x).run P w.drew = .ok news w.drew)
    (hg : cap < n + m) (hfit : (n + m) * it.bytes ≤ 140737488355328) :
    (Builtin.append_ #[t, t] ty #[.slice base n cap, x]).run P w =
      .ok (.slice (some ⟨w.heap.size, 0, none⟩) (n + m) (grownCap w (n + m) cap e)) (w.drew.alloc (.cells (olds ++ news ++ Builtin.zeroCells z.cells (grownCap w (n + m) cap e - (n + m))) e)) := by
  subst hx
  have h1 : ¬ (n + m ≤ cap) := by omega
  have h2 : ¬ (281474976710656 < Builtin.nextslicecap (n + m) cap * it.bytes) := by have := growslice_fits hg hfit; omega
  have hle : n + m ≤ (n + m) * it.bytes := Nat.le_mul_of_pos_right _ (by omega)
  have h3 : ¬ (9223372036854775807 < ((n : Int) + (m : Int))) := by omega
  simp [Builtin.append_, run_underlying ht, sizeOf, typeInfo, zeroValue, hi, hz, Builtin.lenOf, h1, h2, h3, hb, Question.forced, hold, hnew, newRow, grownCap]

theorem run_append_kept (w : World) (t ty e : TypeId) (it : TypeInfo) (ht : P.underlying t = some (.slice e)) (hi : P.info? e = some it)
    (base : Option Addr) (n cap m : Nat) (x : Value) (ad : Option Addr) (c : Nat) (hx : x = .slice ad m c) (news : Array Value)
    (hnew : (Builtin.firstCells it.size m x).run P w = .ok news w) (hg : n + m ≤ cap) (w' : World)
    (hst : (match base with | some a => storeCells (a.add (n * it.size)) news.toList | none => pure () : Sem Unit).run P w = .ok () w') :
    (Builtin.append_ #[t, t] ty #[.slice base n cap, x]).run P w = .ok (.slice base (n + m) cap) w' := by
  subst hx
  cases base with
  | none =>
    simp at hst; subst hst
    simp [Builtin.append_, run_underlying ht, sizeOf, typeInfo, hi, Builtin.lenOf, hg, hnew]
  | some a0 =>
    simp at hst
    simp [Builtin.append_, run_underlying ht, sizeOf, typeInfo, hi, Builtin.lenOf, hg, hnew, hst]

/-- append to nothing. -/
theorem gives_appendNil (c : Call) (x y : Operand) (t : Nat) (hop : op.op = .call c) (hc : c.callee = .builtin .append) (ha : c.args.toList = [x, y]) (hts : c.argTypes.toList = [t, t])
    (hT : T.Ok P) (ti : TI) (ht : T t = some ti) (e : Nat) (hk : ti.k = .slice e) (te : TI) (hte : T e = some te) (ys : List AV) (hy : cont o (ρ y) = some ys) (hx : ρ x = .nil)
    (hb : ys.length * te.bytes ≤ 140737488355328) (hz : ∀ v ∈ ys, v.cells.length = te.size)
    (h : K (.own (nx + 16 * i)) [(nx + 16 * i, some (.arr te.size ys))] (idsC (ρ y))) : Gives P i op ρ o nx K := by
  obtain ⟨callee, args, argTypes⟩ := c
  simp only at hc ha hts
  subst hc
  obtain rfl : args = #[x, y] := by apply Array.ext'; simpa using ha
  obtain rfl : argTypes = #[t, t] := by apply Array.ext'; simpa using hts
  have oke := hT e te hte
  refine ⟨_, _, _, h, sem_of _ _ _ fun f st a w hr hn hu he ho => ?_, fun q hq => by simp at hq; subst hq; exact .inr ⟨Nat.le_refl _, by simp⟩⟩
  subst hn
  obtain ⟨it, zv, i1, i2, i3, i4, i5, i6⟩ := oke.info
  have e1 : a.eval x = .slice none 0 0 := by have := hr.ev x; rw [he x (by simp [hop, Op.operands, Call.operands]), hx] at this; exact this.nil_inv
  have e2 := hr.ev y
  rw [he y (by simp [hop, Op.operands, Call.operands])] at e2
  obtain ⟨ad, cc, news, n1, n2, n3, n4, n5, n6⟩ := run_news (P := P) hr e2 (by rw [cont_ids ho]; exact hy) te.size oke.pos.1 hz
  have hfr := (hr.fresh hu (b := st.nx + 16 * i) (Nat.le_refl _) (by omega)).1
  have hexec : ∀ r w', (Builtin.append_ #[t, t] op.type #[.slice none 0 0, a.eval y]).run P w = .ok r w' → (execOp a.eval op).run P w = .ok (.value r) w' := by
    intro r w' hh
    simp [execOp, hop, resolve, invoke, builtin, e1, hh]
  by_cases hz0 : ys = []
  · subst hz0
    have hn0 : news = [] := List.eq_nil_of_length_eq_zero (by simpa using n2)
    subst hn0
    have hrun := run_append_kept (P := P) w t op.type e it (TI.Ok.und_slice hT ht hk) i1 none 0 0 0 (a.eval y) ad cc n1 #[] (by rw [i2]; exact n6 w fun _ _ h => h) (Nat.le_refl _) w (by simp)
    refine ⟨putPhi f (st.nx + 16 * i) ⟨none, 0, te.size, 0⟩, w, _, hexec _ _ hrun, ?_⟩
    refine out_one hr i _ (st.nx + 16 * i) _ w (fun _ => False) _ _ (putPhi_le _ _ _ hfr) (fun n hn => putPhi_ne _ _ _ hn) (fun _ _ => ⟨Nat.le_refl _, by omega⟩) (Nat.le_refl _) rfl rfl rfl
      (fun _ h => h.elim) (fun g hg _ => rfl) (fun n ob hn h => by rwa [updO_one_ne _ _ _ hn] at h) (fun l' g hl' hg => ?_) (fun hk' ob' h => ?_) (fun hk' => .own0 _ _ (putPhi_self _ _ _))
    · rw [putPhi_self] at hl'; cases hl'; cases hg
    · rw [updO_one] at h; cases h; exact ⟨oke.pos.1, .inl ⟨putPhi_self _ _ _, rfl⟩⟩
  · have hpos : 0 < ys.length := List.length_pos_iff.2 hz0
    have hrun := run_append_grown (P := P) w t op.type e it zv (TI.Ok.und_slice hT ht hk) i1 i4 (by rw [i3]; have := oke.pos.2; omega) none 0 0 ys.length (a.eval y) ad cc n1 #[] news.toArray
      (by simp [Builtin.firstCells]) (by rw [i2]; exact n6 w.drew fun _ _ h => h) (by omega) (by rw [i3, Nat.zero_add]; exact hb)
    rw [Nat.zero_add] at hrun
    have hge := grownCap_ge w ys.length 0 e
    have hle : ys.length ≤ ys.length * te.bytes := Nat.le_mul_of_pos_right _ oke.pos.2
    have hcm := grownCap_le_maxLen w ys.length 0 e (by simp only [maxLen]; omega)
    generalize hC : (#[] ++ news.toArray ++ Builtin.zeroCells zv.cells (grownCap w ys.length 0 e - ys.length) : Array Value) = C at hrun
    have hCl : C.toList = news ++ (Builtin.zeroCells zv.cells (grownCap w ys.length 0 e - ys.length)).toList := by rw [← hC]; simp
    have hCs : C.size = grownCap w ys.length 0 e * te.size := by
      have hl := congrArg List.length hCl
      simp only [Array.length_toList, List.length_append, size_zeroCells, n2, i6] at hl
      rw [hl, ← Nat.add_mul]; congr 1; omega
    have hpush : Pushed w (w.drew.alloc (.cells C e)) C e := ⟨by show (w.heap.push _)[w.heap.size]? = _; simp, by simp, fun g hg => by show (w.heap.push _)[g]? = _; rw [Array.getElem?_push, if_neg (by omega)], rfl, rfl, rfl⟩
    refine ⟨putPhi f (st.nx + 16 * i) ⟨some w.heap.size, grownCap w ys.length 0 e, te.size, ys.length⟩, _, _, hexec _ _ hrun,
      out_new hr hu _ C e hpush _ _ rfl _ _ (fun own' hkk => ?_) (fun own' => .own _ _ _ _ _ (putPhi_self _ _ _))⟩
    refine ⟨oke.pos.1, .inr ⟨w.heap.size, grownCap w ys.length 0 e, C, e, putPhi_self _ _ _, hpush.new, hCs, hge, hcm, hz, n4, fun j q x' d hj hd => ?_⟩⟩
    obtain ⟨u, hu', hru⟩ := n3.at_ j q x' d hj hd
    have := (List.getElem?_eq_some_iff.1 hu').1
    exact ⟨u, by rw [← Array.getElem?_toList, hCl, List.getElem?_append_left this]; exact hu', hru.mono (putPhi_le _ _ _ hfr) hkk⟩

/-- append to an object: its first n elements, and others behind them. -/
theorem gives_appendOwn (c : Call) (x y : Operand) (t : Nat) (hop : op.op = .call c) (hc : c.callee = .builtin .append) (ha : c.args.toList = [x, y]) (hts : c.argTypes.toList = [t, t])
    (hT : T.Ok P) (ti : TI) (ht : T t = some ti) (e : Nat) (hk : ti.k = .slice e) (te : TI) (hte : T e = some te) (ys : List AV) (hy : cont o (ρ y) = some ys) (id : Nat) (xs : List AV)
    (hid : o id = some (.arr te.size xs)) (n : Nat) (hx : (ρ x = .own id ∧ n = xs.length) ∨ (ρ x = .ref id 0 n ∧ n ≤ xs.length))
    (hb : (n + ys.length) * te.bytes ≤ 140737488355328) (hz : ∀ v ∈ ys, v.cells.length = te.size)
    (h : K (.own (nx + 16 * i)) [(id, none), (nx + 16 * i, some (.arr te.size (xs.take n ++ ys)))] (id :: idsC (ρ y))) : Gives P i op ρ o nx K := by
  obtain ⟨callee, args, argTypes⟩ := c
  simp only at hc ha hts
  subst hc
  obtain rfl : args = #[x, y] := by apply Array.ext'; simpa using ha
  obtain rfl : argTypes = #[t, t] := by apply Array.ext'; simpa using hts
  have oke := hT e te hte
  refine ⟨_, _, _, h, sem_of _ _ _ fun f st a w hr hn hu he ho => ?_, fun q hq => ?_⟩
  rotate_left
  · simp at hq
    rcases hq with hq | hq
    · subst hq; exact .inl (by simp)
    · subst hq; exact .inr ⟨Nat.le_refl _, by simp⟩
  subst hn
  obtain ⟨it, zv, i1, i2, i3, i4, i5, i6⟩ := oke.info
  have hob : st.o id = some (.arr te.size xs) := by rw [ho id (by simp)]; exact hid
  have hat := hr.o.at_ id _ hob
  have e2 := hr.ev y
  rw [he y (by simp [hop, Op.operands, Call.operands])] at e2
  obtain ⟨ad, cc, news, n1, n2, n3, n4, n5, n6⟩ := run_news (P := P) hr e2 (by rw [cont_ids fun q hq => ho q (by simp [hq])]; exact hy) te.size oke.pos.1 hz
  have hfs := hr.fresh hu (b := st.nx + 16 * i) (Nat.le_refl _) (by omega)
  have hfr := hfs.1
  have hne : id ≠ st.nx + 16 * i := fun e => by rw [e] at hob; rw [hfs.2] at hob; cases hob
  have hnx : n ≤ xs.length := by rcases hx with ⟨_, h⟩ | ⟨_, h⟩ <;> omega
  have hexec : ∀ s r w', a.eval x = s → (Builtin.append_ #[t, t] op.type #[s, a.eval y]).run P w = .ok r w' → (execOp a.eval op).run P w = .ok (.value r) w' := by
    intro s r w' hs hh
    simp [execOp, hop, resolve, invoke, builtin, hs, hh]
  have hkeepo : ∀ (C : Option AObj) (m : Nat) (ob : AObj), m ≠ st.nx + 16 * i → updO [(id, none), (st.nx + 16 * i, C)] st.o m = some ob → m ≠ id ∧ st.o m = some ob := by
    intro C m ob hm hh
    by_cases hmi : m = id
    · subst hmi; rw [updO_two_fst _ _ _ _ _ hm] at hh; cases hh
    · rw [updO_two_ne _ _ _ _ _ hmi hm] at hh; exact ⟨hmi, hh⟩
  have hgood : ∀ v ∈ xs.take n ++ ys, ∀ d ∈ v.cells, d.good = true := by
    intro v hv d hd
    rcases List.mem_append.1 hv with hv | hv
    · rcases hat with ⟨_, ⟨_, h2⟩ | ⟨g, cap, cur, e', _, _, _, _, _, _, h7, _⟩⟩
      · subst h2; simp at hv
      · exact h7 v (List.mem_of_mem_take hv) d hd
    · exact n4 v hv d hd
  have hlenc : ∀ v ∈ xs.take n ++ ys, v.cells.length = te.size := by
    intro v hv
    rcases List.mem_append.1 hv with hv | hv
    · rcases hat with ⟨_, ⟨_, h2⟩ | ⟨g, cap, cur, e', _, _, _, _, _, h6, _, _⟩⟩
      · subst h2; simp at hv
      · exact h6 v (List.mem_of_mem_take hv)
    · exact hz v hv
  have hlen : (xs.take n ++ ys).length = n + ys.length := by rw [List.length_append, List.length_take]; omega
  -- a new row
  have grow : ∀ (base : Option Addr) (cap : Nat) (olds : List Value), a.eval x = .slice base n cap → (Builtin.firstCells te.size n (.slice base n cap)).run P w.drew = .ok olds.toArray w.drew →
      olds.length = n * te.size → El (R w f (owns f st.o)) te.size olds (xs.take n) → cap < n + ys.length →
      ∃ f' w' r, (execOp a.eval op).run P w = .ok (.value r) w' ∧ Out f st w i (.own (st.nx + 16 * i)) [(id, none), (st.nx + 16 * i, some (.arr te.size (xs.take n ++ ys)))] f' w' r := by
    intro base cap olds hev hfc hol hel hlt
    have hrun := run_append_grown (P := P) w t op.type e it zv (TI.Ok.und_slice hT ht hk) i1 i4 (by rw [i3]; have := oke.pos.2; omega) base n cap ys.length (a.eval y) ad cc n1 olds.toArray news.toArray
      (by rw [i2]; exact hfc) (by rw [i2]; exact n6 w.drew fun _ _ h => h) hlt (by rw [i3]; exact hb)
    have hge := grownCap_ge w (n + ys.length) cap e
    have hle : n + ys.length ≤ (n + ys.length) * te.bytes := Nat.le_mul_of_pos_right _ oke.pos.2
    have hcm := grownCap_le_maxLen w (n + ys.length) cap e (by simp only [maxLen]; omega)
    generalize hG : grownCap w (n + ys.length) cap e = G at hrun hge hcm
    generalize hC : (olds.toArray ++ news.toArray ++ Builtin.zeroCells zv.cells (G - (n + ys.length)) : Array Value) = C at hrun
    have hCl : C.toList = olds ++ news ++ (Builtin.zeroCells zv.cells (G - (n + ys.length))).toList := by rw [← hC]; simp
    have hCs : C.size = G * te.size := by
      have hl := congrArg List.length hCl
      simp only [Array.length_toList, List.length_append, size_zeroCells, n2, i6, hol] at hl
      rw [hl, ← Nat.add_mul, ← Nat.add_mul]; congr 1; omega
    have hpush : Pushed w (w.drew.alloc (.cells C e)) C e := ⟨by show (w.heap.push _)[w.heap.size]? = _; simp, by simp, fun g hg => by show (w.heap.push _)[g]? = _; rw [Array.getElem?_push, if_neg (by omega)], rfl, rfl, rfl⟩
    refine ⟨putPhi f (st.nx + 16 * i) ⟨some w.heap.size, G, te.size, n + ys.length⟩, _, _, hexec _ _ _ hev hrun, ?_⟩
    refine out_one hr i _ (st.nx + 16 * i) _ _ (fun _ => False) _ _ (putPhi_le _ _ _ hfr) (fun m hm => putPhi_ne _ _ _ hm) (fun _ _ => ⟨Nat.le_refl _, by omega⟩) hpush.size rfl rfl rfl
      (fun _ h => h.elim) (fun g hg _ => hpush.old g hg) (fun m ob hm h => (hkeepo _ m ob hm h).2) (fun l' g hl' hg => ?_) (fun hkk ob' h => ?_) (fun hkk => .own _ _ _ _ _ (putPhi_self _ _ _))
    · rw [putPhi_self] at hl'; cases hl'; cases hg; exact .inl (Nat.le_refl _)
    · rw [updO_two] at h; cases h
      have hel2 := El.append hel n3 (Builtin.zeroCells zv.cells (G - (n + ys.length))).toList (by rw [hol, List.length_take, Nat.min_eq_left hnx])
      rw [← hCl] at hel2
      refine ⟨oke.pos.1, .inr ⟨w.heap.size, G, C, e, by rw [hlen]; exact putPhi_self _ _ _, hpush.new, hCs, by rw [hlen]; exact hge, hcm, hlenc, hgood, fun j q x' d hj hd => ?_⟩⟩
      obtain ⟨u, hu', hru⟩ := hel2.at_ j q x' d hj hd
      exact ⟨u, by rw [← Array.getElem?_toList]; exact hu', hru.mono (putPhi_le _ _ _ hfr) hkk⟩
  rcases hat with ⟨h0, ⟨h1, h2⟩ | ⟨g, cap, cur, e', h1, h2, h3, h4, h5, h6, h7, h8⟩⟩
  · -- nil
    subst h2
    have hn0 : n = 0 := by simpa using hnx
    subst hn0
    have hev : a.eval x = .slice none 0 0 := by
      have hrx := hr.ev x
      rw [he x (by simp [hop, Op.operands, Call.operands])] at hrx
      rcases hx with ⟨hx, _⟩ | ⟨hx, _⟩ <;> rw [hx] at hrx <;> generalize a.eval x = s at hrx <;> cases hrx
      · rfl
      · rename_i h'; rw [h1] at h'; cases h'
      · rfl
      · rename_i h' _ _; rw [h1] at h'; cases h'
    by_cases hy0 : ys = []
    · subst hy0
      have hn0 : news = [] := List.eq_nil_of_length_eq_zero (by simpa using n2)
      subst hn0
      have hrun := run_append_kept (P := P) w t op.type e it (TI.Ok.und_slice hT ht hk) i1 none 0 0 0 (a.eval y) ad cc n1 #[] (by rw [i2]; exact n6 w fun _ _ h => h) (Nat.le_refl _) w (by simp)
      refine ⟨putPhi f (st.nx + 16 * i) ⟨none, 0, te.size, 0⟩, w, _, hexec _ _ _ hev hrun, ?_⟩
      refine out_one hr i _ (st.nx + 16 * i) _ w (fun _ => False) _ _ (putPhi_le _ _ _ hfr) (fun n hn => putPhi_ne _ _ _ hn) (fun _ _ => ⟨Nat.le_refl _, by omega⟩) (Nat.le_refl _) rfl rfl rfl
        (fun _ h => h.elim) (fun g hg _ => rfl) (fun m ob hm h => (hkeepo _ m ob hm h).2) (fun l' g hl' hg => ?_) (fun hk' ob' h => ?_) (fun hk' => .own0 _ _ (putPhi_self _ _ _))
      · rw [putPhi_self] at hl'; cases hl'; cases hg
      · rw [updO_two] at h; cases h; exact ⟨oke.pos.1, .inl ⟨putPhi_self _ _ _, rfl⟩⟩
    · have hpos : 0 < ys.length := List.length_pos_iff.2 hy0
      exact grow none 0 [] hev (by simp [Builtin.firstCells]) (by simp) ⟨fun y hy => by simp at hy, by simp, fun j q y c hj => by simp at hj⟩ (by omega)
  · have hev : a.eval x = .slice (some ⟨g, 0, none⟩) n cap := by
      have hrx := hr.ev x
      rw [he x (by simp [hop, Op.operands, Call.operands])] at hrx
      rcases hx with ⟨hx, hn⟩ | ⟨hx, hn⟩ <;> rw [hx] at hrx <;> generalize a.eval x = s at hrx <;> cases hrx
      · rename_i h'; rw [h1] at h'; cases h'
      · rename_i h'; rw [h1] at h'; cases h'; rw [hn]
      · rename_i h'; rw [h1] at h'; cases h'
      · rename_i g2 cap2 z2 n2' ad2 h' hb2 hl2
        rw [h1] at h'; cases h'
        rw [hb2 (.inr rfl)]; simp
    have hel0 : El (R w f (owns f st.o)) te.size cur.toList xs := by
      refine ⟨h6, by show xs.length * te.size ≤ cur.size; rw [h3]; exact Nat.mul_le_mul_right _ h4, fun j q y d hj hd => ?_⟩
      obtain ⟨u, hu', hru⟩ := h8 j q y d hj hd
      exact ⟨u, by simpa using hu', hru⟩
    have helt := hel0.take n hnx
    have hca : cur.toList.length = cur.size := Array.length_toList
    have hns : n * te.size ≤ cur.size := by rw [h3]; exact Nat.mul_le_mul_right _ (by omega)
    by_cases hroom : n + ys.length ≤ cap
    · -- in its place
      have hfit : n * te.size + news.length ≤ cur.size := by rw [n2, h3, ← Nat.add_mul]; exact Nat.mul_le_mul_right _ hroom
      have hst := run_storeCells_at P g (n * te.size) e' news 0 cur w h2 (by simpa using hfit) n5
      rw [Nat.add_zero] at hst
      have hrun := run_append_kept (P := P) w t op.type e it (TI.Ok.und_slice hT ht hk) i1 (some ⟨g, 0, none⟩) n cap ys.length (a.eval y) ad cc n1 news.toArray (by rw [i2]; exact n6 w fun _ _ h => h) hroom _
        (by simp only [add_mk, Nat.zero_add, i2]; exact hst)
      generalize hC : (cur.toList.take (n * te.size) ++ news ++ cur.toList.drop (n * te.size + news.length)).toArray = C at hrun
      have hCl : C.toList = cur.toList.take (n * te.size) ++ news ++ cur.toList.drop (n * te.size + news.length) := by rw [← hC]
      have hother : ∀ m ob l, m ≠ st.nx + 16 * i → updO [(id, none), (st.nx + 16 * i, some (.arr te.size (xs.take n ++ ys)))] st.o m = some ob → f m = some l → l.blk ≠ some g := by
        intro m ob l hm hh hl hg
        obtain ⟨hmi, hh⟩ := hkeepo _ m ob hm hh
        exact hmi (hr.o.inj m id ob _ l _ g hh hob hl h1 hg rfl)
      refine ⟨putPhi f (st.nx + 16 * i) ⟨some g, cap, te.size, n + ys.length⟩, _, _, hexec _ _ _ hev hrun, ?_⟩
      refine out_one hr i _ (st.nx + 16 * i) _ _ (fun k => k = g) _ _ (putPhi_le _ _ _ hfr) (fun m hm => putPhi_ne _ _ _ hm) (fun _ _ => ⟨Nat.le_refl _, by omega⟩) (by simp [World.setRow]) rfl rfl rfl
        (fun k hk' => ?_) (fun k hk' hn => setRow_other w g k C hn) (fun m ob hm h => (hkeepo _ m ob hm h).2) (fun l' g' hl' hg => ?_) (fun hkk ob' h => ?_) (fun hkk => .own _ _ _ _ _ (putPhi_self _ _ _))
      · subst hk'; exact ⟨⟨id, _, _, hob, h1, rfl⟩, hother⟩
      · rw [putPhi_self] at hl'; cases hl'; cases hg; exact .inr ⟨⟨id, _, _, hob, h1, rfl⟩, hother⟩
      · rw [updO_two] at h; cases h
        have hel2 := El.append helt n3 (cur.toList.drop (n * te.size + news.length)) (by rw [List.length_take, List.length_take, hca, Nat.min_eq_left hns, Nat.min_eq_left hnx])
        rw [← hCl] at hel2
        refine ⟨oke.pos.1, .inr ⟨g, cap, C, e', by rw [hlen]; exact putPhi_self _ _ _, setRow_mk w g cur C e' h2, ?_, by rw [hlen]; exact hroom, h5, hlenc, hgood, fun j q x' d hj hd => ?_⟩⟩
        · have hl := congrArg List.length hCl
          simp only [Array.length_toList, List.length_append, List.length_take, List.length_drop] at hl
          omega
        · obtain ⟨u, hu', hru⟩ := hel2.at_ j q x' d hj hd
          exact ⟨u, by rw [← Array.getElem?_toList]; exact hu', hru.mono (putPhi_le _ _ _ hfr) hkk⟩
    · refine grow (some ⟨g, 0, none⟩) cap (cur.toList.take (n * te.size)) hev ?_ (by rw [List.length_take, hca]; omega) helt (by omega)
      refine run_firstCells_some (P := P) w.drew te.size n ⟨g, 0, none⟩ n cap _ (by rw [List.length_take, hca]; omega) fun j v hj => ?_
      rw [List.getElem?_take] at hj
      split at hj
      · rw [add_mk, Nat.zero_add]
        show w.cell? ⟨g, j, none⟩ = _
        rw [cell_mk h2, ← Array.getElem?_toList]; exact hj
      · cases hj

end
end Go.Proofs.YtbknlijpkabcnaaGreat.K
