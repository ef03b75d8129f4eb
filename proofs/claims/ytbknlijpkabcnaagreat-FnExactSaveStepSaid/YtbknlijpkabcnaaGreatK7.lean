/- Signs, conversions of numbers and texts, lengths, reslicing, addresses of elements. No condition. -/
import Derived.Test.YtbknlijpkabcnaaGreatK6
namespace Go.Proofs.YtbknlijpkabcnaaGreat.K
open Go

section
variable {P : Program} {T : Tab} {i nx : Nat} {op : Oper} {ρ : Operand → AV} {o : Ob} {K : Kont}

theorem gives_not (t : Nat) (x : Operand) (hop : op.op = .unOp .not t x)
    (h : match ρ x with | .b c => K (.b (!c)) [] [] | .p q => K (.p ¬ q) [] [] | _ => False) : Gives P i op ρ o nx K := by
  have hm : x ∈ op.op.operands.toList := by simp [hop, Op.operands]
  split at h
  · rename_i c hx
    refine gives_val _ [] h fun f st a w hr he _ => ⟨.bool (!c), ?_, .b _⟩
    have := he x hm; rw [hx] at this
    simp [execOp, hop, this.b_inv, Op.unary]
  · rename_i q hx
    refine gives_val _ [] h fun f st a w hr he _ => ?_
    have := he x hm; rw [hx] at this
    obtain ⟨c, h1, h2⟩ := this.p_inv
    exact ⟨.bool (!c), by simp [execOp, hop, h1, Op.unary], .p _ _ (by rw [← h2]; cases c <;> simp)⟩
  · exact h.elim

theorem gives_neg (t : Nat) (x : Operand) (hop : op.op = .unOp .neg t x)
    (h : match ρ x with | .i k n => K (.i k (k.wrap (0 - n))) [] [] | _ => False) : Gives P i op ρ o nx K := by
  have hm : x ∈ op.op.operands.toList := by simp [hop, Op.operands]
  split at h
  · rename_i k n hx
    refine gives_val _ [] h fun f st a w hr he _ => ⟨.int k (k.wrap (0 - n)), ?_, .i _ _⟩
    have := he x hm; rw [hx] at this
    simp [execOp, hop, this.i_inv, Op.unary, Op.intArith]
  · exact h.elim

theorem TI.Ok.und_int (hT : T.Ok P) {t : Nat} {ti : TI} (ht : T t = some ti) {k : IntKind} (hk : ti.k = .int k) : P.underlying t = some (.int k) := by
  obtain ⟨d, h1, h2⟩ := (hT t ti ht).desc
  rw [hk] at h2
  cases d <;> first | exact h2.elim | skip
  rw [h1, show k = _ from h2]
theorem TI.Ok.und_str (hT : T.Ok P) {t : Nat} {ti : TI} (ht : T t = some ti) (hk : ti.k = .str) : P.underlying t = some .string := by
  obtain ⟨d, h1, h2⟩ := (hT t ti ht).desc
  rw [hk] at h2
  cases d <;> first | exact h2.elim | exact h1
theorem TI.Ok.und_bool (hT : T.Ok P) {t : Nat} {ti : TI} (ht : T t = some ti) (hk : ti.k = .bool) : P.underlying t = some .bool := by
  obtain ⟨d, h1, h2⟩ := (hT t ti ht).desc
  rw [hk] at h2
  cases d <;> first | exact h2.elim | exact h1
theorem TI.Ok.und_slice (hT : T.Ok P) {t : Nat} {ti : TI} (ht : T t = some ti) {e : Nat} (hk : ti.k = .slice e) : P.underlying t = some (.slice e) := by
  obtain ⟨d, h1, h2⟩ := (hT t ti ht).desc
  rw [hk] at h2
  cases d <;> first | exact h2.elim | skip
  rw [h1, show e = _ from h2]
theorem TI.Ok.und_iface (hT : T.Ok P) {t : Nat} {ti : TI} (ht : T t = some ti) (hk : ti.k = .iface) : ∃ ms, P.underlying t = some (.interface ms) := by
  obtain ⟨d, h1, h2⟩ := (hT t ti ht).desc
  rw [hk] at h2
  cases d <;> first | exact h2.elim | exact ⟨_, h1⟩

theorem gives_convInt (s d : Nat) (x : Operand) (hop : op.op = .convert s d x) (hT : T.Ok P) (ts td : TI) (hs : T s = some ts) (hd : T d = some td) (k0 k : IntKind) (hk0 : ts.k = .int k0) (hk : td.k = .int k)
    (kk : IntKind) (n : Int) (hx : ρ x = .i kk n) (h : K (.i k (k.wrap n)) [] []) : Gives P i op ρ o nx K := by
  refine gives_val _ [] h fun f st a w hr he _ => ⟨.int k (k.wrap n), ?_, .i _ _⟩
  have := he x (by simp [hop, Op.operands]); rw [hx] at this
  simp [execOp, hop, this.i_inv, convert, run_underlying (TI.Ok.und_int hT hs hk0), run_underlying (TI.Ok.und_int hT hd hk), Conv.intToInt]

theorem gives_convStr (s d : Nat) (x : Operand) (hop : op.op = .convert s d x) (hT : T.Ok P) (ts td : TI) (hs : T s = some ts) (hd : T d = some td) (hk0 : ts.k = .str) (hk : td.k = .str)
    (l : List UInt8) (hx : ρ x = .s l) (h : K (.s l) [] []) : Gives P i op ρ o nx K := by
  refine gives_val _ [] h fun f st a w hr he _ => ⟨a.eval x, ?_, by have := he x (by simp [hop, Op.operands]); rw [hx] at this; exact this⟩
  have := he x (by simp [hop, Op.operands]); rw [hx] at this
  simp [execOp, hop, this.s_inv.1, convert, run_underlying (TI.Ok.und_str hT hs hk0), run_underlying (TI.Ok.und_str hT hd hk)]

theorem gives_lenStr (c : Call) (x : Operand) (t : Nat) (ts : List Nat) (hop : op.op = .call c) (hc : c.callee = .builtin .len) (ha : c.args.toList = [x]) (hts : c.argTypes.toList = t :: ts)
    (hT : T.Ok P) (ti : TI) (ht : T t = some ti) (hk : ti.k = .str) (l : List UInt8) (hx : ρ x = .s l) (h : K (.i .i64 l.length) [] []) : Gives P i op ρ o nx K := by
  obtain ⟨callee, args, argTypes⟩ := c
  simp only at hc ha hts
  subst hc
  obtain rfl : args = #[x] := by apply Array.ext'; simpa using ha
  obtain rfl : argTypes = (t :: ts).toArray := by apply Array.ext'; simpa using hts
  refine gives_val _ [] h fun f st a w hr he _ => ⟨.int .i64 l.length, ?_, .i _ _⟩
  have := he x (by simp [hop, Op.operands, Call.operands]); rw [hx] at this
  have e : (⟨l.toArray⟩ : ByteArray).size = l.length := rfl
  simp [execOp, hop, resolve, invoke, builtin, Builtin.len_, this.s_inv.1, run_underlying (TI.Ok.und_str hT ht hk), goInt, e]

theorem gives_lenSlice (c : Call) (x : Operand) (t : Nat) (ts : List Nat) (hop : op.op = .call c) (hc : c.callee = .builtin .len) (ha : c.args.toList = [x]) (hts : c.argTypes.toList = t :: ts)
    (hT : T.Ok P) (ti : TI) (ht : T t = some ti) (e : Nat) (hk : ti.k = .slice e) (xs : List AV) (hx : cont o (ρ x) = some xs) (h : K (.i .i64 xs.length) [] (idsC (ρ x))) : Gives P i op ρ o nx K := by
  obtain ⟨callee, args, argTypes⟩ := c
  simp only at hc ha hts
  subst hc
  obtain rfl : args = #[x] := by apply Array.ext'; simpa using ha
  obtain rfl : argTypes = (t :: ts).toArray := by apply Array.ext'; simpa using hts
  refine gives_val _ _ h fun f st a w hr he ho => ⟨.int .i64 xs.length, ?_, .i _ _⟩
  have h1 := he x (by simp [hop, Op.operands, Call.operands])
  obtain ⟨ad, cc, h2, _⟩ := cont_len hr h1 (by rw [cont_ids ho]; exact hx)
  simp [execOp, hop, resolve, invoke, builtin, Builtin.len_, h2, run_underlying (TI.Ok.und_slice hT ht hk), goInt]

theorem gives_min (c : Call) (x y : Operand) (hop : op.op = .call c) (mx : Bool) (hc : c.callee = .builtin (if mx then .max else .min)) (ha : c.args.toList = [x, y]) (k k' : IntKind) (p q : Int)
    (hx : ρ x = .i k p) (hy : ρ y = .i k' q) (h : K (.i k (if mx then (if p < q then q else p) else (if q < p then q else p))) [] []) : Gives P i op ρ o nx K := by
  obtain ⟨callee, args, argTypes⟩ := c
  simp only at hc ha
  obtain rfl : args = #[x, y] := by apply Array.ext'; simpa using ha
  refine gives_val _ _ h fun f st a w hr he ho => ⟨.int k (if mx then (if p < q then q else p) else (if q < p then q else p)), ?_, .i _ _⟩
  have h1 := he x (by simp [hop, Op.operands, Call.operands]); rw [hx] at h1
  have h2 := he y (by simp [hop, Op.operands, Call.operands]); rw [hy] at h2
  cases mx with
  | true => simp at hc; subst hc; simp [execOp, hop, resolve, invoke, builtin, Builtin.max_, Builtin.max2, h1.i_inv, h2.i_inv]
  | false => simp at hc; subst hc; simp [execOp, hop, resolve, invoke, builtin, Builtin.min_, Builtin.min2, h1.i_inv, h2.i_inv]

/-- The address of an element. -/
theorem run_indexAddr (t : Nat) (x ix : Operand) (hop : op.op = .indexAddr t x ix) (hT : T.Ok P) (ti : TI) (ht : T t = some ti) (e : Nat) (hk : ti.k = .slice e) (te : TI) (hte : T e = some te)
    (a : Act) (w : World) (ad : Addr) (len c : Nat) (k : IntKind) (n : Int) (hx : a.eval x = .slice (some ad) len c) (hn : a.eval ix = .int k n) (h0 : 0 ≤ n) (h1 : n < len) :
    (execOp a.eval op).run P w = .ok (.value (.pointer (some (ad.add (n.toNat * te.size))))) w := by
  simp [execOp, hop, Instr.indexAt, hx, hn, asIntOf, run_underlying (TI.Ok.und_slice hT ht hk), h0, h1, (hT e te hte).run_sizeOf w]

theorem gives_indexSl (t : Nat) (x ix : Operand) (hop : op.op = .indexAddr t x ix) (hT : T.Ok P) (ti : TI) (ht : T t = some ti) (e : Nat) (hk : ti.k = .slice e) (te : TI) (hte : T e = some te)
    (xs : List AV) (hx : ρ x = .sl te.size xs) (k : IntKind) (n : Int) (hn : ρ ix = .i k n) (h0 : 0 ≤ n) (v : AV) (hv : xs[n.toNat]? = some v) (h : K (.rp v.cells) [] []) : Gives P i op ρ o nx K := by
  refine gives_val _ [] h fun f st a w hr he _ => ?_
  have h1 := he x (by simp [hop, Op.operands]); rw [hx] at h1
  have h2 := he ix (by simp [hop, Op.operands]); rw [hn] at h2
  generalize hxv : a.eval x = u at h1
  cases h1 with
  | sl ad _ c _ val h0z hc hm hz hp hcell hR =>
    have hlt := (List.getElem?_eq_some_iff.1 hv).1
    have hzv := hz v (List.mem_of_getElem? hv)
    have hle : (n.toNat + 1) * te.size ≤ xs.length * te.size := Nat.mul_le_mul_right _ hlt
    rw [Nat.add_mul] at hle
    obtain ⟨a0, ha0, _, _⟩ := hcell (n.toNat * te.size) (by omega)
    subst ha0
    refine ⟨_, run_indexAddr t x ix hop hT ti ht e hk te hte a w a0 xs.length c k n hxv h2.i_inv h0 (by omega), .rp _ _ (fun j => val (n.toNat * te.size + j)) (fun c hc => AV.good.pure (hp v (List.mem_of_getElem? hv) c hc)) (fun j hj => ?_) (fun j c' hc' => hR _ j v c' hv hc')⟩
    obtain ⟨a1, ha1, h3, h4⟩ := hcell (n.toNat * te.size + j) (by omega)
    cases ha1
    rw [add_block, add_add]; exact ⟨h3, h4⟩

theorem gives_indexOwn (t : Nat) (x ix : Operand) (hop : op.op = .indexAddr t x ix) (hT : T.Ok P) (ti : TI) (ht : T t = some ti) (e : Nat) (hk : ti.k = .slice e) (te : TI) (hte : T e = some te)
    (id : Nat) (hx : ρ x = .own id) (xs : List AV) (hid : o id = some (.arr te.size xs)) (k : IntKind) (n : Int) (hn : ρ ix = .i k n) (h0 : 0 ≤ n) (h1 : n < xs.length) (h : K (.ep id n.toNat 0) [] [id]) :
    Gives P i op ρ o nx K := by
  refine gives_val _ _ h fun f st a w hr he ho => ?_
  have h2 := he x (by simp [hop, Op.operands]); rw [hx] at h2
  have h3 := he ix (by simp [hop, Op.operands]); rw [hn] at h3
  have hob : st.o id = some (.arr te.size xs) := by rw [ho id (by simp)]; exact hid
  obtain ⟨g, cap, cur, e', h4, h5, h6, h7, h8, _⟩ := arr_row (hr.o.at_ id _ hob) (by omega)
  generalize hxv : a.eval x = u at h2
  cases h2 with
  | own0 _ z' h' => rw [h4] at h'; cases h'
  | own _ g' cap' z' n' h' =>
    rw [h4] at h'; cases h'
    refine ⟨_, run_indexAddr t x ix hop hT ti ht e hk te hte a w _ xs.length cap k n hxv h3.i_inv h0 h1, ?_⟩
    rw [add_mk, Nat.zero_add]
    exact .ep id n.toNat 0 g cap te.size xs.length h4

theorem gives_indexRef (t : Nat) (x ix : Operand) (hop : op.op = .indexAddr t x ix) (hT : T.Ok P) (ti : TI) (ht : T t = some ti) (e : Nat) (hk : ti.k = .slice e) (te : TI) (hte : T e = some te)
    (id lo len : Nat) (hx : ρ x = .ref id lo len) (xs : List AV) (hid : o id = some (.arr te.size xs)) (k : IntKind) (n : Int) (hn : ρ ix = .i k n) (h0 : 0 ≤ n) (h1 : n < len) (h : K (.ep id (lo + n.toNat) 0) [] [id]) :
    Gives P i op ρ o nx K := by
  refine gives_val _ _ h fun f st a w hr he ho => ?_
  have h2 := he x (by simp [hop, Op.operands]); rw [hx] at h2
  have h3 := he ix (by simp [hop, Op.operands]); rw [hn] at h3
  have hob : st.o id = some (.arr te.size xs) := by rw [ho id (by simp)]; exact hid
  have hl := ref_len h2 (hr.o.at_ id _ hob)
  obtain ⟨_, _, _, _, _, hll⟩ := hl
  obtain ⟨g, cap, cur, e', h4, h5, h6, h7, h8, _⟩ := arr_row (hr.o.at_ id _ hob) (by omega)
  generalize hxv : a.eval x = u at h2
  cases h2 with
  | ref0 _ z' h' => rw [h4] at h'; cases h'
  | ref _ _ _ g' cap' z' n' ad h' hl hb =>
    rw [h4] at h'; cases h'
    have hb' := hb (by omega)
    subst hb'
    refine ⟨_, run_indexAddr t x ix hop hT ti ht e hk te hte a w _ len _ k n hxv h3.i_inv h0 h1, ?_⟩
    rw [add_mk, ← Nat.add_mul]
    exact .ep id (lo + n.toNat) 0 g cap te.size xs.length h4

end
end Go.Proofs.YtbknlijpkabcnaaGreat.K
