/- Reslicing. No condition. -/
import Derived.Test.YtbknlijpkabcnaaGreatK11
import Derived.Laws.Strings2
namespace Go.Proofs.YtbknlijpkabcnaaGreat.K
open Go

section
variable {P : Program} {T : Tab} {i nx : Nat} {op : Oper} {ρ : Operand → AV} {o : Ob} {K : Kont}

/-- A bound that is given, or is not. -/
def Bd (ρ : Operand → AV) (x : Option Operand) (dflt n : Nat) : Prop := (x = none ∧ n = dflt) ∨ ∃ y k, x = some y ∧ ρ y = .i k (n : Int)

theorem bnds_of {lo hi : Option Operand} {n : Nat} {X : Nat → Nat → Bool → Prop} (h : bnds ρ lo hi n X) : ∃ l m b, Bd ρ lo 0 l ∧ Bd ρ hi n m ∧ l ≤ m ∧ m ≤ n ∧ (b = true → m = n) ∧ X l m b := by
  unfold bnds at h
  split at h
  · exact ⟨0, n, true, .inl ⟨rfl, rfl⟩, .inl ⟨rfl, rfl⟩, Nat.zero_le _, Nat.le_refl _, fun _ => rfl, h⟩
  · rename_i x
    split at h
    · rename_i k a hx
      obtain ⟨⟨h1, h2⟩, h⟩ := h
      exact ⟨a.toNat, n, true, .inr ⟨x, k, rfl, by rw [hx, Int.toNat_of_nonneg h1]⟩, .inl ⟨rfl, rfl⟩, by omega, Nat.le_refl _, fun _ => rfl, h⟩
    · exact h.elim
  · rename_i y
    split at h
    · rename_i k a hx
      obtain ⟨⟨h1, h2⟩, h⟩ := h
      exact ⟨0, a.toNat, false, .inl ⟨rfl, rfl⟩, .inr ⟨y, k, rfl, by rw [hx, Int.toNat_of_nonneg h1]⟩, Nat.zero_le _, by omega, (fun h => by cases h), h⟩
    · exact h.elim
  · rename_i x y
    split at h
    · rename_i k a k' c hx hy
      obtain ⟨⟨h1, h2, h3⟩, h⟩ := h
      exact ⟨a.toNat, c.toNat, false, .inr ⟨x, k, rfl, by rw [hx, Int.toNat_of_nonneg h1]⟩, .inr ⟨y, k', rfl, by rw [hy, Int.toNat_of_nonneg (by omega)]⟩, by omega, by omega, (fun h => by cases h), h⟩
    · exact h.elim

theorem sub_eq {α : Type} (l : List α) (a h : Nat) (b : Bool) (hb : b = true → h = l.length) : sub l a h b = (l.take h).drop a := by
  cases b with
  | false => rfl
  | true => rw [hb rfl, List.take_length]; rfl

theorem run_bounds {w : World} (isS : Bool) (len cap l h : Nat) (lo hi : Option Value) (hlo : (lo = none ∧ l = 0) ∨ ∃ k, lo = some (.int k (l : Int))) (hhi : (hi = none ∧ h = len) ∨ ∃ k, hi = some (.int k (h : Int)))
    (h1 : l ≤ h) (h2 : h ≤ cap) : (Instr.sliceBounds isS len cap lo hi none).run P w = .ok (l, h, cap) w := by
  have e1 : ∀ (k : IntKind) (n m : Nat) (c : BoundsCode), n ≤ m → (Instr.sliceBound (.int k (n : Int)) m c).run P w = .ok n w := by
    intro k n m c hnm
    simp [Instr.sliceBound, asIntOf, hnm]
  rcases hlo with ⟨rfl, rfl⟩ | ⟨k, rfl⟩ <;> rcases hhi with ⟨rfl, rfl⟩ | ⟨k', rfl⟩
  · simp [Instr.sliceBounds]
  · simp [Instr.sliceBounds, e1 k' h cap _ h2]
  · simp [Instr.sliceBounds, e1 k l h _ h1]
  · simp [Instr.sliceBounds, e1 k l h _ h1, e1 k' h cap _ h2]

theorem Bd.ev {f : Phi} {st : St} {a : Act} {w : World} {x : Option Operand} {d n : Nat} (h : Bd ρ x d n) (he : ∀ y, x = some y → R w f (owns f st.o) (a.eval y) (ρ y)) :
    (x.map a.eval = none ∧ n = d) ∨ ∃ k, x.map a.eval = some (.int k (n : Int)) := by
  rcases h with ⟨rfl, h⟩ | ⟨y, k, rfl, hy⟩
  · exact .inl ⟨rfl, h⟩
  · have := he y rfl; rw [hy] at this
    exact .inr ⟨k, by simp [this.i_inv]⟩

theorem gives_sliceStr (t : Nat) (x : Operand) (lo hi : Option Operand) (hop : op.op = .slice t x lo hi none) (hT : T.Ok P) (ti : TI) (ht : T t = some ti) (hk : ti.k = .str) (s : List UInt8) (hx : ρ x = .s s)
    (l h : Nat) (hlo : Bd ρ lo 0 l) (hhi : Bd ρ hi s.length h) (h1 : l ≤ h) (h2 : h ≤ s.length) (hK : K (.s ((s.take h).drop l)) [] []) : Gives P i op ρ o nx K := by
  refine gives_val _ [] hK fun f st a w hr he _ => ⟨.string ⟨((s.take h).drop l).toArray⟩, ?_, ?_⟩
  · have h3 := he x (by simp [hop, Op.operands]); rw [hx] at h3
    have e1 := hlo.ev (a := a) (fun y hy => he y (by subst hy; simp [hop, Op.operands]))
    have e2 := hhi.ev (a := a) (fun y hy => he y (by subst hy; simp [hop, Op.operands]))
    have hb := run_bounds (P := P) (w := w) false s.length s.length l h _ _ e1 e2 h1 h2
    have esz : (⟨s.toArray⟩ : ByteArray).size = s.length := rfl
    simp [execOp, hop, Instr.sliceAt, Instr.slice, run_underlying (TI.Ok.und_str hT ht hk), h3.s_inv.1, esz, hb]
    rw [ByteArray.extract_mk, List.drop_take]
  · have h3 := he x (by simp [hop, Op.operands]); rw [hx] at h3
    exact .s _ (by have := h3.s_inv.2; rw [List.length_drop, List.length_take]; omega)

theorem run_sliceAt (t : Nat) (x : Operand) (lo hi : Option Operand) (hop : op.op = .slice t x lo hi none) (hT : T.Ok P) (ti : TI) (ht : T t = some ti) (e : Nat) (hk : ti.k = .slice e) (te : TI) (hte : T e = some te)
    (a : Act) (w : World) (ad : Option Addr) (n c l h : Nat) (hv : a.eval x = .slice ad n c) (e1 : (lo.map a.eval = none ∧ l = 0) ∨ ∃ k, lo.map a.eval = some (.int k (l : Int)))
    (e2 : (hi.map a.eval = none ∧ h = n) ∨ ∃ k, hi.map a.eval = some (.int k (h : Int))) (h1 : l ≤ h) (h2 : h ≤ c) :
    (execOp a.eval op).run P w = .ok (.value (.slice (if c = l then ad else ad.map (·.add (l * te.size))) (h - l) (c - l))) w := by
  have hb := run_bounds (P := P) (w := w) true n c l h _ _ e1 e2 h1 h2
  simp [execOp, hop, Instr.sliceAt, Instr.slice, run_underlying (TI.Ok.und_slice hT ht hk), hv, hb, (hT e te hte).run_sizeOf w]

theorem gives_sliceSl (t : Nat) (x : Operand) (lo hi : Option Operand) (hop : op.op = .slice t x lo hi none) (hT : T.Ok P) (ti : TI) (ht : T t = some ti) (e : Nat) (hk : ti.k = .slice e) (te : TI) (hte : T e = some te)
    (xs : List AV) (hx : ρ x = .sl te.size xs) (l h : Nat) (hlo : Bd ρ lo 0 l) (hhi : Bd ρ hi xs.length h) (h1 : l ≤ h) (h2 : h ≤ xs.length) (hK : K (.sl te.size ((xs.take h).drop l)) [] []) : Gives P i op ρ o nx K := by
  refine gives_val _ [] hK fun f st a w hr he _ => ?_
  have h3 := he x (by simp [hop, Op.operands]); rw [hx] at h3
  have e1 := hlo.ev (a := a) (fun y hy => he y (by subst hy; simp [hop, Op.operands]))
  have e2 := hhi.ev (a := a) (fun y hy => he y (by subst hy; simp [hop, Op.operands]))
  generalize hv : a.eval x = u at h3
  cases h3 with
  | sl ad _ c _ val h0z hc hm hz hp hcell hR =>
    refine ⟨_, run_sliceAt t x lo hi hop hT ti ht e hk te hte a w ad xs.length c l h hv e1 e2 h1 (by omega), ?_⟩
    have hlen : ((xs.take h).drop l).length = h - l := by rw [List.length_drop, List.length_take]; omega
    rw [← hlen]
    refine .sl _ _ _ _ (fun k => val (l * te.size + k)) h0z (by rw [hlen]; omega) (by omega) (fun y hy => hz y (List.mem_of_mem_take (List.mem_of_mem_drop hy))) (fun y hy => hp y (List.mem_of_mem_take (List.mem_of_mem_drop hy)))
      (fun k hk' => ?_) (fun j q y d hj hd => ?_)
    · rw [hlen] at hk'
      have hm2 : h * te.size ≤ xs.length * te.size := Nat.mul_le_mul_right _ h2
      rw [Nat.sub_mul] at hk'
      obtain ⟨a0, ha0, h4, h5⟩ := hcell (l * te.size + k) (by omega)
      subst ha0
      have hcl : c ≠ l := by intro hcl; have : h = l := (by omega); subst this; simp at hk'
      refine ⟨a0.add (l * te.size), by rw [if_neg hcl]; rfl, by rw [add_block]; exact h4, by rw [add_add]; exact h5⟩
    · rw [List.getElem?_drop, List.getElem?_take] at hj
      split at hj
      · have := hR (l + j) q y d hj hd
        rw [Nat.add_mul, Nat.add_assoc] at this
        exact this
      · cases hj

theorem gives_sliceOwn (t : Nat) (x : Operand) (lo hi : Option Operand) (hop : op.op = .slice t x lo hi none) (hT : T.Ok P) (ti : TI) (ht : T t = some ti) (e : Nat) (hk : ti.k = .slice e) (te : TI) (hte : T e = some te)
    (id : Nat) (hx : ρ x = .own id) (xs : List AV) (hid : o id = some (.arr te.size xs)) (l h : Nat) (hlo : Bd ρ lo 0 l) (hhi : Bd ρ hi xs.length h) (h1 : l ≤ h) (h2 : h ≤ xs.length)
    (hK : K (.ref id l (h - l)) [] [id]) : Gives P i op ρ o nx K := by
  refine gives_val _ _ hK fun f st a w hr he ho => ?_
  have h3 := he x (by simp [hop, Op.operands]); rw [hx] at h3
  have e1 := hlo.ev (a := a) (fun y hy => he y (by subst hy; simp [hop, Op.operands]))
  have e2 := hhi.ev (a := a) (fun y hy => he y (by subst hy; simp [hop, Op.operands]))
  have hob : st.o id = some (.arr te.size xs) := by rw [ho id (by simp)]; exact hid
  have hat := hr.o.at_ id _ hob
  generalize hv : a.eval x = u at h3
  rcases hat with ⟨h0, ⟨h4, h5⟩ | ⟨g, cap, cur, e', h4, h5, h6, h7, h8, _⟩⟩
  · subst h5
    have : h = 0 := by simpa using h2
    subst this
    have : l = 0 := by omega
    subst this
    cases h3 with
    | own0 => exact ⟨_, run_sliceAt t x lo hi hop hT ti ht e hk te hte a w none 0 0 0 0 hv e1 e2 (Nat.le_refl _) (Nat.le_refl _), .ref0 _ _ h4⟩
    | own _ g' cap' z' n' h' => rw [h4] at h'; cases h'
  · cases h3 with
    | own0 _ z' h' => rw [h4] at h'; cases h'
    | own _ g' cap' z' n' h' =>
      rw [h4] at h'; cases h'
      refine ⟨_, run_sliceAt t x lo hi hop hT ti ht e hk te hte a w (some ⟨g, 0, none⟩) xs.length cap l h hv e1 e2 h1 (by omega), ?_⟩
      by_cases hcl : cap = l
      · rw [if_pos hcl]
        exact .ref id l (h - l) g cap te.size xs.length _ h4 (by omega) (fun hh => by
          rcases hh with hh | hh
          · omega
          · subst hh; simp)
      · rw [if_neg hcl]
        simp only [Option.map_some, add_mk, Nat.zero_add]
        exact .ref id l (h - l) g cap te.size xs.length _ h4 (by omega) (fun _ => rfl)

end
end Go.Proofs.YtbknlijpkabcnaaGreat.K
