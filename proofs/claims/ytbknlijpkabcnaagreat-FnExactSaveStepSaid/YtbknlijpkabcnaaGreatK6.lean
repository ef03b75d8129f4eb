/- Operators, conversions, lengths, reslicing, addresses of elements. No condition. -/
import Derived.Test.YtbknlijpkabcnaaGreatK5
import Derived.Laws.Small
import Derived.Laws.Cover3
import Derived.Laws.Concat
import Derived.Laws.Strings
namespace Go.Proofs.YtbknlijpkabcnaaGreat.K
open Go

section
variable {P : Program} {T : Tab} {i nx : Nat} {op : Oper} {ρ : Operand → AV} {o : Ob} {K : Kont}

theorem decide_iff {q : Prop} [Decidable q] : decide q = true ↔ q := decide_eq_true_iff

theorem run_bin_of (b : BinOp) (t ty : Nat) (x y : Operand) (hop : op.op = .binOp b t x y ty) (a : Act) (w : World) (r : Value)
    (hg : eqGuard b t x y (a.eval x) (a.eval y) = Pure.pure ()) (hb : (binOp b t (a.eval x) (a.eval y)).run P w = .ok r w) : (execOp a.eval op).run P w = .ok (.value r) w := by
  simp [execOp, hop, hg, hb]

theorem bqe {c d : Bool} {p q : Prop} (hc : c = true ↔ p) (hd : d = true ↔ q) : (if true then c == d else !(c == d)) = true ↔ (p ↔ q) := by
  rw [← hc, ← hd]; cases c <;> cases d <;> simp
theorem bqn {c d : Bool} {p q : Prop} (hc : c = true ↔ p) (hd : d = true ↔ q) : (if false then c == d else !(c == d)) = true ↔ ¬ (p ↔ q) := by
  rw [← hc, ← hd]; cases c <;> cases d <;> simp
theorem bbe {c d p q : Bool} (hc : c = true ↔ p = true) (hd : d = true ↔ q = true) : (if true then c == d else !(c == d)) = true ↔ (p = q) := by
  rw [bqe hc hd]; cases p <;> cases q <;> simp
theorem bbn {c d p q : Bool} (hc : c = true ↔ p = true) (hd : d = true ↔ q = true) : (if false then c == d else !(c == d)) = true ↔ (p ≠ q) := by
  rw [bqn hc hd]; cases p <;> cases q <;> simp

theorem eqd_ni {t : TypeId} {ms} (hu : P.underlying t = some (.interface ms)) (d : Nat) (w : World) : (Op.equalIn (d + 1) t .nilIface .nilIface).run P w = .ok true w := by
  simp [Op.equalIn, run_underlying hu]
theorem eqd_in {t n : TypeId} {v : Value} {ms} (hu : P.underlying t = some (.interface ms)) (d : Nat) (w : World) : (Op.equalIn (d + 1) t (.iface n v) .nilIface).run P w = .ok false w := by
  simp [Op.equalIn, run_underlying hu]
theorem eq_ni {t : TypeId} {ms} (hu : P.underlying t = some (.interface ms)) (w : World) : (Op.equal t .nilIface .nilIface).run P w = .ok true w := eqd_ni hu 9999 w
theorem eq_in {t n : TypeId} {v : Value} {ms} (hu : P.underlying t = some (.interface ms)) (w : World) : (Op.equal t (.iface n v) .nilIface).run P w = .ok false w := eqd_in hu 9999 w

theorem gives_binOp (b : BinOp) (t ty : Nat) (x y : Operand) (hop : op.op = .binOp b t x y ty)
    (hbl : ∀ q, (ρ x).tq = some q → P.underlying t = some .bool)
    (hif : (ρ x = .ni ∨ ∃ n v, ρ x = .ifc n v) → ∃ ms, P.underlying t = some (.interface ms))
    (h : abin b (isC y) (ρ x) (ρ y) fun v => K v [] []) : Gives P i op ρ o nx K := by
  have hm1 : x ∈ op.op.operands.toList := by simp [hop, Op.operands]
  have hm2 : y ∈ op.op.operands.toList := by simp [hop, Op.operands]
  -- whole numbers
  have ints : ∀ (k k' : IntKind) (p q : Int) (v : AV) (r : Value), ρ x = .i k p → ρ y = .i k' q → K v [] [] → (∀ w, (binOp b t (.int k p) (.int k' q)).run P w = .ok r w) →
      (∀ w f own, R w f own r v) → Gives P i op ρ o nx K := by
    intro k k' p q v r hx hy hk hrun hR
    refine gives_val _ _ hk fun f st a w hr he _ => ⟨r, ?_, hR _ _ _⟩
    have h1 := he x hm1; rw [hx] at h1
    have h2 := he y hm2; rw [hy] at h2
    refine run_bin_of b t ty x y hop a w r ?_ ?_
    · rw [h1.i_inv]; cases b <;> rfl
    · rw [h1.i_inv, h2.i_inv]; exact hrun w
  have strs : ∀ (p q : List UInt8) (v : AV) (r : Value), ρ x = .s p → ρ y = .s q → K v [] [] → (∀ w, (Op.stringOp b ⟨p.toArray⟩ ⟨q.toArray⟩).run P w = .ok r w) →
      (∀ w f own, R w f own r v) → Gives P i op ρ o nx K := by
    intro p q v r hx hy hk hrun hR
    refine gives_val _ _ hk fun f st a w hr he _ => ⟨r, ?_, hR _ _ _⟩
    have h1 := he x hm1; rw [hx] at h1
    have h2 := he y hm2; rw [hy] at h2
    refine run_bin_of b t ty x y hop a w r ?_ ?_
    · rw [h1.s_inv.1]; cases b <;> rfl
    · rw [h1.s_inv.1, h2.s_inv.1]
      have : binOp b t (.string ⟨p.toArray⟩) (.string ⟨q.toArray⟩) = Op.stringOp b ⟨p.toArray⟩ ⟨q.toArray⟩ := by cases b <;> rfl
      rw [this]; exact hrun w
  -- flags
  have bools : ∀ (p q : Prop) (v : AV) (n : Bool), (ρ x).tq = some p → (ρ y).tq = some q → b = (if n then .eql else .neq) → K v [] [] →
      (∀ (c d : Bool), (c = true ↔ p) → (d = true ↔ q) → ∀ w f own, R w f own (.bool (if n then c == d else !(c == d))) v) → Gives P i op ρ o nx K := by
    intro p q v n hx hy hb hk hR
    have hget : ∀ (f : Phi) (st : St) (w : World) (u : Value) (z : AV) (s : Prop), R w f (owns f st.o) u z → z.tq = some s → ∃ c : Bool, u = .bool c ∧ (c = true ↔ s) := by
      intro f st w u z s h1 h2
      cases z <;> simp [AV.tq] at h2
      · exact ⟨_, h1.b_inv, h2⟩
      · obtain ⟨c, h3, h4⟩ := h1.p_inv; exact ⟨c, h3, h4.trans h2⟩
    refine gives_val _ _ hk fun f st a w hr he _ => ?_
    obtain ⟨c, h1, h2⟩ := hget f st w _ _ p (he x hm1) hx
    obtain ⟨d, h3, h4⟩ := hget f st w _ _ q (he y hm2) hy
    refine ⟨.bool (if n then c == d else !(c == d)), run_bin_of b t ty x y hop a w _ ?_ ?_, hR c d h2 h4 _ _ _⟩
    · rw [h1]; cases b <;> rfl
    · rw [h1, h3]
      have hu := hbl p hx
      have heq : (Op.equal t (.bool c) (.bool d)).run P w = .ok (c == d) w := by
        exact run_equal_bool w t c d hu
      cases n with
      | true => simp at hb; subst hb; simp [binOp, heq]
      | false => simp at hb; subst hb; simp [binOp, heq]
  have bp : ∀ (c : Bool) (q : Prop), (c = true ↔ q) → ∀ w f own, R w f own (.bool c) (.p q) := fun c q h w f own => .p c q h
  unfold abin at h
  split at h
  · rename_i k p k' q hx hy
    cases b <;> simp only at h
    case shl =>
      cases q with
      | ofNat n => exact ints k k' p n _ (.int k (k.wrap (p * 2 ^ min n k.bits))) hx hy h (fun w => by simp [binOp, Op.shift, show ¬ (n : Int) < 0 by omega]) fun _ _ _ => .i _ _
      | negSucc n => exact h.elim
    case shr =>
      cases q with
      | ofNat n => exact ints k k' p n _ (.int k (p.fdiv (2 ^ min n k.bits))) hx hy h (fun w => by simp [binOp, Op.shift, show ¬ (n : Int) < 0 by omega]) fun _ _ _ => .i _ _
      | negSucc n => exact h.elim
    case quo =>
      split at h
      · rename_i hk; subst hk
        have h0 : q ≠ 0 ∧ K (.i k (k.wrap (p.tdiv q))) [] [] := by
          unfold NZ at h; split at h
          · exact h.elim
          · exact ⟨by simp; omega, h⟩
          · exact ⟨by simp, h⟩
        exact ints k k p q _ (.int k (k.wrap (p.tdiv q))) hx hy h0.2 (fun w => by simp [binOp, Op.intDiv, h0.1]) fun _ _ _ => .i _ _
      · exact h.elim
    case rem =>
      split at h
      · rename_i hk; subst hk
        have h0 : q ≠ 0 ∧ K (.i k (p.tmod q)) [] [] := by
          unfold NZ at h; split at h
          · exact h.elim
          · exact ⟨by simp; omega, h⟩
          · exact ⟨by simp, h⟩
        exact ints k k p q _ (.int k (p.tmod q)) hx hy h0.2 (fun w => by simp [binOp, Op.intDiv, h0.1]) fun _ _ _ => .i _ _
      · exact h.elim
    all_goals first | exact h.elim | skip
    all_goals (split at h <;> first | exact h.elim | (rename_i hk; subst hk))
    case h_1.add.isTrue => exact ints k k p q _ (.int k (k.wrap (p + q))) hx hy h (fun w => by simp [binOp, Op.intArith]) fun _ _ _ => .i _ _
    case h_1.sub.isTrue => exact ints k k p q _ (.int k (k.wrap (p - q))) hx hy h (fun w => by simp [binOp, Op.intArith]) fun _ _ _ => .i _ _
    case h_1.mul.isTrue => exact ints k k p q _ (.int k (k.wrap (p * q))) hx hy h (fun w => by simp [binOp, Op.intArith]) fun _ _ _ => .i _ _
    case h_1.and.isTrue => exact ints k k p q _ (.int k (band k p q)) hx hy h (fun w => by simp [binOp, Op.intBits, band, bitOp]) fun _ _ _ => .i _ _
    case h_1.or.isTrue => exact ints k k p q _ (.int k (bor k p q)) hx hy h (fun w => by simp [binOp, Op.intBits, bor, bitOp]) fun _ _ _ => .i _ _
    case h_1.xor.isTrue => exact ints k k p q _ (.int k (bxor k p q)) hx hy h (fun w => by simp [binOp, Op.intBits, bxor, bitOp]) fun _ _ _ => .i _ _
    case h_1.eql.isTrue => exact ints k k p q _ (.bool (p == q)) hx hy h (fun w => by simp [binOp, Op.intCmp]) (bp _ _ beq_iff_eq)
    case h_1.neq.isTrue => exact ints k k p q _ (.bool (p != q)) hx hy h (fun w => by simp [binOp, Op.intCmp]) (bp _ _ bne_iff_ne)
    case h_1.lss.isTrue => exact ints k k p q _ (.bool (p < q)) hx hy h (fun w => by simp [binOp, Op.intCmp]) (bp _ _ decide_iff)
    case h_1.leq.isTrue => exact ints k k p q _ (.bool (p ≤ q)) hx hy h (fun w => by simp [binOp, Op.intCmp]) (bp _ _ decide_iff)
    case h_1.gtr.isTrue => exact ints k k p q _ (.bool (p > q)) hx hy h (fun w => by simp [binOp, Op.intCmp]) (bp _ _ decide_iff)
    case h_1.geq.isTrue => exact ints k k p q _ (.bool (p ≥ q)) hx hy h (fun w => by simp [binOp, Op.intCmp]) (bp _ _ decide_iff)
  · rename_i p q hx hy
    have he : ((⟨p.toArray⟩ : ByteArray).toList == (⟨q.toArray⟩ : ByteArray).toList) = true ↔ p = q := by
      rw [ByteArray.toList_mk, ByteArray.toList_mk]; exact beq_iff_eq
    cases b <;> simp only at h
    case add =>
      obtain ⟨h1, h2⟩ := h
      refine strs p q _ (.string ⟨(p ++ q).toArray⟩) hx hy h2 (fun w => ?_) fun w f own => .s _ (by rw [List.length_append]; exact h1)
      rw [run_string_add_sum w _ _ (by show p.length + q.length ≤ _; simpa [maxLen] using h1)]
      congr 2
    case eql => exact strs p q _ (.bool ((⟨p.toArray⟩ : ByteArray).toList == (⟨q.toArray⟩ : ByteArray).toList)) hx hy h (fun w => by simp [Op.stringOp]) (bp _ _ he)
    case neq => exact strs p q _ (.bool !((⟨p.toArray⟩ : ByteArray).toList == (⟨q.toArray⟩ : ByteArray).toList)) hx hy h (fun w => by simp [Op.stringOp]) (bp _ _ (by rw [Bool.not_eq_true', ← Bool.not_eq_true, he]))
    all_goals exact h.elim
  · rename_i p q hx hy
    cases b <;> simp only at h
    case eql => exact bools (p = true) (q = true) _ true (by rw [hx]; rfl) (by rw [hy]; rfl) rfl h fun c d hc hd => bp _ _ (bbe hc hd)
    case neq => exact bools (p = true) (q = true) _ false (by rw [hx]; rfl) (by rw [hy]; rfl) rfl h fun c d hc hd => bp _ _ (bbn hc hd)
    all_goals exact h.elim
  · rename_i p q hx hy
    cases b <;> simp only at h
    case eql => exact bools (p = true) q _ true (by rw [hx]; rfl) (by rw [hy]; rfl) rfl h fun c d hc hd => bp _ _ (bqe hc hd)
    case neq => exact bools (p = true) q _ false (by rw [hx]; rfl) (by rw [hy]; rfl) rfl h fun c d hc hd => bp _ _ (bqn hc hd)
    all_goals exact h.elim
  · rename_i p q hx hy
    cases b <;> simp only at h
    case eql => exact bools p (q = true) _ true (by rw [hx]; rfl) (by rw [hy]; rfl) rfl h fun c d hc hd => bp _ _ (bqe hc hd)
    case neq => exact bools p (q = true) _ false (by rw [hx]; rfl) (by rw [hy]; rfl) rfl h fun c d hc hd => bp _ _ (bqn hc hd)
    all_goals exact h.elim
  · rename_i p q hx hy
    cases b <;> simp only at h
    case eql => exact bools p q _ true (by rw [hx]; rfl) (by rw [hy]; rfl) rfl h fun c d hc hd => bp _ _ (bqe hc hd)
    case neq => exact bools p q _ false (by rw [hx]; rfl) (by rw [hy]; rfl) rfl h fun c d hc hd => bp _ _ (bqn hc hd)
    all_goals exact h.elim
  · rename_i hx hy
    obtain ⟨ms, hu⟩ := hif (.inl hx)
    have hc : (isC y) = true := by
      cases hyc : (isC y) with
      | true => rfl
      | false => rw [hyc] at h; cases b <;> exact h.elim
    have hg : ∀ (a : Act) (w : World) (f : Phi) (own : Nat → Prop), R w f own (a.eval x) (ρ x) → R w f own (a.eval y) (ρ y) → a.eval x = .nilIface ∧ a.eval y = .nilIface ∧ eqGuard b t x y .nilIface .nilIface = Pure.pure () := by
      intro a w f own h1 h2
      rw [hx] at h1; rw [hy] at h2
      refine ⟨h1.ni_inv, h2.ni_inv, ?_⟩
      cases y <;> simp [isC] at hc
      cases b <;> cases x <;> rfl
    rw [hc] at h
    cases b <;> simp only at h
    case eql =>
      refine gives_val _ _ h fun f st a w hr he _ => ⟨.bool true, ?_, .b _⟩
      obtain ⟨h1, h2, h3⟩ := hg a w f _ (he x hm1) (he y hm2)
      refine run_bin_of .eql t ty x y hop a w _ (by rw [h1, h2]; exact h3) ?_
      rw [h1, h2]; simp [binOp, eq_ni hu]
    case neq =>
      refine gives_val _ _ h fun f st a w hr he _ => ⟨.bool false, ?_, .b _⟩
      obtain ⟨h1, h2, h3⟩ := hg a w f _ (he x hm1) (he y hm2)
      refine run_bin_of .neq t ty x y hop a w _ (by rw [h1, h2]; exact h3) ?_
      rw [h1, h2]; simp [binOp, eq_ni hu]
    all_goals exact h.elim
  · rename_i tt vv hx hy
    obtain ⟨ms, hu⟩ := hif (.inr ⟨_, _, hx⟩)
    have hg : ∀ (a : Act) (w : World) (f : Phi) (own : Nat → Prop), R w f own (a.eval x) (ρ x) → R w f own (a.eval y) (ρ y) → ∃ v, a.eval x = .iface tt v ∧ a.eval y = .nilIface := by
      intro a w f own h1 h2
      rw [hx] at h1; rw [hy] at h2
      generalize a.eval x = u at h1
      cases h1
      exact ⟨_, rfl, h2.ni_inv⟩
    cases b <;> simp only at h
    case eql =>
      refine gives_val _ _ h fun f st a w hr he _ => ⟨.bool false, ?_, .b _⟩
      obtain ⟨v, h1, h2⟩ := hg a w f _ (he x hm1) (he y hm2)
      refine run_bin_of .eql t ty x y hop a w _ (by rw [h1]; rfl) ?_
      rw [h1, h2]; simp [binOp, eq_in hu]
    case neq =>
      refine gives_val _ _ h fun f st a w hr he _ => ⟨.bool true, ?_, .b _⟩
      obtain ⟨v, h1, h2⟩ := hg a w f _ (he x hm1) (he y hm2)
      refine run_bin_of .neq t ty x y hop a w _ (by rw [h1]; rfl) ?_
      rw [h1, h2]; simp [binOp, eq_in hu]
    all_goals exact h.elim
  · exact h.elim

end
end Go.Proofs.YtbknlijpkabcnaaGreat.K
