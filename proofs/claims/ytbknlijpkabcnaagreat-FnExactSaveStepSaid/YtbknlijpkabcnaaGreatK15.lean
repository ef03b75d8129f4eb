/- Every operation: its condition gives its result. No condition. -/
import Derived.Lib.AppendZeros
import Derived.Test.YtbknlijpkabcnaaGreatK14
namespace Go.Proofs.YtbknlijpkabcnaaGreat.K
open Go

section
variable {P : Program} {T : Tab} {i nx : Nat} {op : Oper} {ρ : Operand → AV} {o : Ob} {K : Kont}

theorem Pw.lift {α β : Type} {r : α → β → Prop} {l : List α} {m : List β} (hl : l.length = m.length) (h : ∀ (k : Nat) a b, l[k]? = some a → m[k]? = some b → r a b) : Pw r l m := ⟨hl, h⟩

theorem gives_call (c : Call) (g : Operand) (hop : op.op = .call c) (hc : c.callee = .value g) (fid : Nat) (a' d' : List AV) (hg : ρ g = .fn (.func fid) a' d')
    (h : CK P fid (nx + 16 * i) (a' ++ c.args.toList.map ρ ++ d') o K) : Gives P i op ρ o nx K := by
  obtain ⟨fz, m, co, ret, co', hcon, hnd, hmap, hl1, hl2, hflat, hK⟩ := h
  refine ⟨_, _, _, hK, ?_, fun x hx => ?_⟩
  · intro f st a w hr hn hu he ho next Q hk
    subst hn
    obtain ⟨callee, args, argTypes⟩ := c
    simp only at hc
    subst hc
    have hgv : R w f (owns f st.o) (a.eval g) (.fn (.func fid) a' d') := by rw [← hg, ← he g (by simp [hop, Op.operands, Call.operands])]; exact hr.ev g
    generalize hv : a.eval g = v at hgv
    cases hgv with
    | fn _ us vs _ _ hl hm hR hS =>
      have hrun : (execOp a.eval op).run P w = (callFunc fid (us ++ args.toList.map a.eval ++ vs).toArray).run P w := by
        have e : (us.toArray ++ (args.map a.eval ++ vs.toArray)) = (us ++ (args.toList.map a.eval ++ vs)).toArray := by apply Array.ext'; simp
        simp [execOp, hop, resolve, invoke, hv, Deferred.ofValue]
        rw [e]
      have hargs : Pw (R w f (owns f st.o)) (args.toList.map a.eval) (args.toList.map ρ) := by
        refine ⟨by simp, fun k u c hu hc => ?_⟩
        rw [List.getElem?_map] at hu hc
        cases hx : args.toList[k]? with
        | none => rw [hx] at hu; cases hu
        | some x =>
          rw [hx] at hu hc; cases hu; cases hc
          rw [← he x (by simp [hop, Op.operands, Call.operands]; exact .inr (by simpa using List.mem_of_getElem? hx))]; exact hr.ev x
      have hall : Pw (R w f (owns f st.o)) (us ++ args.toList.map a.eval ++ vs) (a' ++ args.toList.map ρ ++ d') := (Pw.append (Pw.append ⟨hl, hR⟩ hargs) ⟨hm, hS⟩)
      have hco := call_out (P := P) hr hu (a' ++ args.toList.map ρ ++ d') (us ++ args.toList.map a.eval ++ vs) hall.1 hall.2 fid fz m co ret co' ho hcon hnd hmap hl1 hl2 hflat
      unfold Oper.wp
      rw [hrun]
      rcases hco with ⟨h1, h2⟩ | ⟨v, w', h1, f', hout⟩
      · rw [h1]
        show Calls P fid _ w _
        refine h2.mono ?_
        rintro e w' ⟨v, rfl, f', hout⟩
        exact hk f' v w' hout
      · rw [h1]
        exact hk f' v w' hout
  · rcases wrs_keys' m (nx + 16 * i) _ m (nx + 16 * i) x hx with h | h
    · exact .inl (by simp [h])
    · refine .inr ⟨h.1, ?_⟩
      have : (bif fz then frzL m.length co' else co').length ≤ m.length + 16 := by
        cases fz with
        | false => exact hl2
        | true => simp only [cond_true]; rw [frzL_length _ _ hl1]; omega
      omega

theorem beq_ite0 {a b : Nat} {p : Prop} (h : bif Nat.beq a b then p else False) : a = b ∧ p := by
  cases hb : Nat.beq a b with
  | true => rw [hb] at h; exact ⟨Nat.eq_of_beq_eq_true hb, h⟩
  | false => rw [hb] at h; exact h.elim

theorem bool_ite0 {b : Bool} {p : Prop} (h : bif b then p else False) : b = true ∧ p := by
  cases b with
  | true => exact ⟨rfl, h⟩
  | false => exact h.elim

/-- A slice without a place holds nothing. -/
theorem nil_empty {f : Phi} {st : St} {a : Act} {w : World} (hr : Rel f st a w) {x : AV} {xs : List AV} {n c : Nat} (h : R w f (owns f st.o) (.slice none n c) x) (hc : cont st.o x = some xs) : xs = [] := by
  have hlen : xs.length = n := by
    obtain ⟨ad, c', hv, _, _⟩ := cont_len hr h hc
    injection hv with _ e _
    exact e.symm
  cases h with
  | any => simp [cont] at hc
  | nil => exact List.eq_nil_of_length_eq_zero hlen
  | e0 => exact List.eq_nil_of_length_eq_zero hlen
  | sl _ z _ ys val h0 _ _ hz _ hcell _ =>
    simp only [cont, Option.some.injEq] at hc
    subst hc
    match ys, hcell with
    | [], _ => rfl
    | y :: ys, hcell =>
      obtain ⟨a', h1, _⟩ := hcell 0 (by simp only [List.length_cons, Nat.add_mul]; omega)
      cases h1
  | own0 id z h' => exact List.eq_nil_of_length_eq_zero hlen
  | ref0 id z h' => exact List.eq_nil_of_length_eq_zero hlen

/-- What is left to say of an operation where more than one premise is asked for at once. -/
theorem aop_sound (hT : T.Ok P) (_hOp : True) {f0 : Phi} {st0 : St} {a0 : Act} {w0 : World} (hr0 : Rel f0 st0 a0 w0) (hρ : ρ = st0.ev) (ho : o = st0.o)
    (h : aop P T (nx + 16 * i) ρ o op.op K) : Gives P i op ρ o nx K := by
  have hyLen : ∀ x xs, cont o (ρ x) = some xs → xs.length ≤ maxLen := by
    intro x xs hx
    obtain ⟨ad, c, _, h1, h2⟩ := cont_len hr0 (hr0.ev x) (by rw [← hρ, ← ho]; exact hx)
    omega
  have hyStr : ∀ x l, ρ x = .s l → l.length ≤ maxLen := by
    intro x l hx
    have := hr0.ev x
    rw [← hρ, hx] at this
    exact this.s_inv.2
  unfold aop at h
  split at h
  · rename_i x hop; exact gives_move x (.inl hop) h
  · rename_i x hop; exact gives_move x (.inr hop) h
  · rename_i c x y hop; exact gives_pick c x y hop h
  · rename_i t hop
    split at h
    · rename_i ti ht; exact gives_alloc t hop hT ti ht h
    · exact h.elim
  · rename_i t x hop
    cases hs : (ρ x).solid with
    | false => rw [hs] at h; exact h.elim
    | true => rw [hs] at h; exact gives_box t x hop hs h
  · rename_i t ps hop
    split at h
    · rename_i fs _ _ z ht
      split at h
      · rename_i cs hf; exact gives_build t ps hop hT _ ht fs rfl cs hf h
      · exact h.elim
    · exact h.elim
  · rename_i t len ps hop
    split at h
    · rename_i e _ _ _ ht
      split at h
      · rename_i te hte
        cases hb : Nat.ble (len * te.size) 16777216 with
        | false => rw [hb] at h; exact h.elim
        | true =>
          rw [hb] at h
          simp only [cond_true] at h
          split at h
          · rename_i xs hf; exact gives_buildSlice t len ps hop hT _ ht e rfl te hte (Nat.le_of_ble_eq_true hb) xs hf h
          · exact h.elim
      · exact h.elim
    · exact h.elim
  · rename_i t x hop
    split at h
    · rename_i ti ht; exact gives_load t x hop hT ti ht h
    · exact h.elim
  · rename_i t x y hop
    split at h
    · rename_i ti ht
      cases hb : (ρ y).solid && Nat.beq (ρ y).cells.length ti.size && (ρ y).cells.all AV.one with
      | false => rw [hb] at h; exact h.elim
      | true =>
        rw [hb] at h
        rw [Bool.and_eq_true, Bool.and_eq_true] at hb
        exact gives_store t x y hop hT ti ht hb.1.1 (Nat.eq_of_beq_eq_true hb.1.2) hb.2 h
    · exact h.elim
  · rename_i x hop; exact gives_nilCheck x hop h
  · rename_i b t x y ty hop
    cases hb : bok T t (ρ x) with
    | false => rw [hb] at h; exact h.elim
    | true =>
      rw [hb] at h
      refine gives_binOp b t ty x y hop (fun q hq => ?_) (fun hq => ?_) h
      · have key : ∀ ti, T t = some ti → ti.k = .bool → P.underlying t = some .bool := fun ti ht hk => TI.Ok.und_bool hT ht hk
        cases hx : ρ x <;> rw [hx] at hq hb <;> simp only [AV.tq] at hq <;> first | cases hq | skip
        all_goals
          simp only [bok] at hb
          split at hb
          · rename_i ht; exact key _ ht rfl
          · cases hb
      · rcases hq with hx | ⟨n, v, hx⟩ <;>
        · rw [hx] at hb
          simp only [bok] at hb
          split at hb
          · rename_i ht; exact TI.Ok.und_iface hT ht rfl
          · cases hb
  · rename_i t x hop
    exact gives_not t x hop h
  · rename_i t x hop
    exact gives_neg t x hop h
  · rename_i s d x hop
    split at h
    · rename_i ts td hs hd
      split at h
      · rename_i k0 k hk0 hk
        split at h
        · rename_i kk n hx; exact gives_convInt s d x hop hT ts td hs hd k0 k hk0 hk kk n hx h
        · exact h.elim
      · rename_i hk0 hk
        split at h
        · rename_i l hx; exact gives_convStr s d x hop hT ts td hs hd hk0 hk l hx h
        · exact h.elim
      · rename_i e hk0 hk
        split at h
        · rename_i hte
          split at h
          · rename_i l hx; exact gives_toBytes s d x hop hT ts td hs hd hk0 e hk _ hte rfl l hx h
          · exact h.elim
        · exact h.elim
      · rename_i e hk0 hk
        split at h
        · rename_i hte
          split at h
          · rename_i xs hx
            obtain ⟨l, hl, h⟩ := h
            have hlen := hyLen x xs hx
            subst hl
            rw [List.length_map] at hlen
            exact gives_ofBytes s d x hop hT ts td hs hd e hk0 hk _ hte rfl l hx hlen (h.f hlen)
          · exact h.elim
        · exact h.elim
      · exact h.elim
    · exact h.elim
  · rename_i t x hop
    split at h
    · exact h.elim
    · rename_i ti hni ht
      exact gives_makeInterface t x hop hT ti ht (fun hk => by
        obtain ⟨k, a, b, c⟩ := ti
        simp only at hk
        subst hk
        exact hni _ _ _ rfl) h
    · exact h.elim
  · rename_i fn fi ca hop; exact gives_makeFunc fn fi ca hop h
  · rename_i t l c hop
    split at h
    · rename_i e _ _ _ ht
      split at h
      · rename_i te hte
        split at h
        · rename_i k n k' m hl hc
          obtain ⟨⟨h1, h2, h3⟩, h⟩ := h
          exact gives_makeSlice t l c hop hT _ ht e rfl te hte k k' n m hl hc h1 h2 h3 h
        · exact h.elim
      · exact h.elim
    · exact h.elim
  · rename_i t x lo hi mx hop
    split at h
    · exact h.elim
    · split at h
      · rename_i ht
        split at h
        · rename_i l hx
          obtain ⟨a, m, b, h1, h2, h3, h4, h5, h6⟩ := bnds_of h
          rw [sub_eq _ _ _ _ h5] at h6
          exact gives_sliceStr t x lo hi hop hT _ ht rfl l hx a m h1 h2 h3 h4 h6
        · exact h.elim
      · rename_i e _ _ _ ht
        split at h
        · rename_i te hte
          split at h
          · rename_i z xs hx
            replace h := beq_ite0 h
            obtain ⟨hz, h⟩ := h
            subst hz
            obtain ⟨a, m, b, h1, h2, h3, h4, h5, h6⟩ := bnds_of h
            rw [sub_eq _ _ _ _ h5] at h6
            exact gives_sliceSl t x lo hi hop hT _ ht e rfl te hte xs hx a m h1 h2 h3 h4 h6
          · rename_i id hx
            split at h
            · rename_i z xs hid
              replace h := beq_ite0 h
              obtain ⟨hz, h⟩ := h
              subst hz
              obtain ⟨a, m, b, h1, h2, h3, h4, h5, h6⟩ := bnds_of h
              exact gives_sliceOwn t x lo hi hop hT _ ht e rfl te hte id hx xs hid a m h1 h2 h3 h4 h6
            · exact h.elim
          · exact h.elim
        · exact h.elim
      · exact h.elim
  · rename_i s x n hop
    split at h
    · rename_i fs _ _ _ ht
      split at h
      · rename_i fo ft hf; exact gives_fieldAddr s x n hop hT _ ht fs rfl fo ft hf h
      · exact h.elim
    · exact h.elim
  · rename_i s x n hop
    split at h
    · rename_i fs _ _ _ ht
      split at h
      · rename_i fo ft hf
        split at h
        · rename_i tf htf
          split at h
          · rename_i cs hx
            replace h := bool_ite0 h
            obtain ⟨hb, h⟩ := h
            exact gives_field s x n hop hT _ ht fs rfl fo ft hf tf htf cs hx (Nat.le_of_ble_eq_true hb) h
          · exact h.elim
        · exact h.elim
      · exact h.elim
    · exact h.elim
  · rename_i t x ix hop
    split at h
    · rename_i e _ _ _ ht
      split at h
      · rename_i te hte
        split at h
        · rename_i z xs k n hx hn
          replace h := beq_ite0 h
          obtain ⟨hz, h0, v, hv, h⟩ := h
          subst hz
          exact gives_indexSl t x ix hop hT _ ht e rfl te hte xs hx k n hn h0 v hv h
        · rename_i id k n hx hn
          split at h
          · rename_i z xs hid
            replace h := beq_ite0 h
            obtain ⟨hz, ⟨h0, h1⟩, h⟩ := h
            subst hz
            exact gives_indexOwn t x ix hop hT _ ht e rfl te hte id hx xs hid k n hn h0 h1 h
          · exact h.elim
        · rename_i id lo len k n hx hn
          split at h
          · rename_i z xs hid
            replace h := beq_ite0 h
            obtain ⟨hz, ⟨h0, h1, h2⟩, h⟩ := h
            subst hz
            exact gives_indexRef t x ix hop hT _ ht e rfl te hte id lo len hx xs hid k n hn h0 h1 h
          · exact h.elim
        · exact h.elim
      · exact h.elim
    · exact h.elim
  · rename_i t x ix hop
    split at h
    · rename_i ht
      split at h
      · rename_i l k n hx hn
        obtain ⟨h0, c, hc, h⟩ := h
        exact gives_index t x ix hop hT _ ht rfl l hx k n hn h0 c hc h
      · exact h.elim
    · exact h.elim
  · rename_i x n hop
    split at h
    · rename_i vs hx
      split at h
      · rename_i v hv; exact gives_extract x n hop vs hx v hv h
      · exact h.elim
    · exact h.elim
  · rename_i c hop
    split at h
    · rename_i hc
      split at h
      · rename_i x t ts ha hts
        split at h
        · rename_i ht
          split at h
          · rename_i l hx; exact gives_lenStr c x t ts hop hc ha hts hT _ ht rfl l hx (h.f (hyStr x l hx))
          · exact h.elim
        · rename_i e _ _ _ ht
          split at h
          · rename_i xs hx; exact gives_lenSlice c x t ts hop hc ha hts hT _ ht e rfl xs hx (h.f (hyLen x xs hx))
          · exact h.elim
        · exact h.elim
      · exact h.elim
    · rename_i hc
      split at h
      · rename_i x y t t' ha hts
        split at h
        · rename_i e _ _ _ e' _ _ _ ht ht'
          split at h
          · rename_i te hte
            replace h := beq_ite0 h
            obtain ⟨htt, h⟩ := h
            subst htt
            split at h
            · rename_i ys hy
              split at h
              · rename_i hx
                obtain ⟨⟨h1, h2⟩, h⟩ := h
                exact gives_appendNil c x y t hop hc ha hts hT _ ht e rfl te hte ys hy hx h1 h2 h
              · rename_i id hx
                split at h
                · rename_i z xs hid
                  replace h := beq_ite0 h
                  obtain ⟨hz, ⟨h1, h2⟩, h⟩ := h
                  subst hz
                  exact gives_appendOwn c x y t hop hc ha hts hT _ ht e rfl te hte ys hy id xs hid xs.length (.inl ⟨hx, rfl⟩) h1 h2 (by rw [List.take_length]; exact h)
                · exact h.elim
              · rename_i id lo len hx
                split at h
                · rename_i z xs hid
                  replace h := bool_ite0 h
                  obtain ⟨hz, ⟨h1, h2, h3⟩, h⟩ := h
                  rw [Bool.and_eq_true] at hz
                  have e1 := Nat.eq_of_beq_eq_true hz.1
                  have e2 := Nat.eq_of_beq_eq_true hz.2
                  subst e1; subst e2
                  exact gives_appendOwn c x y t hop hc ha hts hT _ ht e rfl te hte ys hy id xs hid len (.inr ⟨hx, h1⟩) h2 h3 h
                · exact h.elim
              · exact h.elim
            · exact h.elim
          · exact h.elim
        · exact h.elim
      · exact h.elim
    · rename_i hc
      split at h
      · rename_i x y ha
        split at h
        · rename_i k p k' q hx hy; exact gives_min c x y hop false hc ha k k' p q hx hy h
        · exact h.elim
      · exact h.elim
    · rename_i hc
      split at h
      · rename_i x y ha
        split at h
        · rename_i k p k' q hx hy; exact gives_min c x y hop true hc ha k k' p q hx hy h
        · exact h.elim
      · exact h.elim
    · rename_i g hc
      split at h
      · rename_i fid a' d' hg; exact gives_call c g hop hc fid a' d' hg h
      · exact h.elim
    · exact h.elim
  · exact h.elim

theorem updO_same {o : Ob} {id : Nat} {ob : AObj} (h : o id = some ob) : updO [(id, some ob)] o = o := by
  funext n
  show (bif Nat.beq n id then some ob else o n) = o n
  cases hb : Nat.beq n id with
  | false => rfl
  | true => have := Nat.eq_of_beq_eq_true hb; subst this; exact h.symm

theorem clear_out (hT : T.Ok P) {f : Phi} {st : St} {a : Act} {w : World} (hr : Rel f st a w) (x : Operand) (t : Nat) (ts : List Nat) (args : Array Operand) (argTypes : Array Nat) (hop : op.op = .call ⟨.builtin .clear, args, argTypes⟩)
    (ha : args.toList = [x]) (hts : argTypes.toList = t :: ts) (ti : TI) (ht : T t = some ti) (e : Nat) (hk : ti.k = .slice e) (te : TI) (hte : T e = some te) (id lo len : Nat) (hx : st.ev x = .ref id lo len)
    (xs : List AV) (hid : st.o id = some (.arr te.size xs)) (hle : lo + len ≤ xs.length) :
    ∃ w', (execOp a.eval op).run P w = .ok (.value (.tuple #[])) w' ∧ Out f st w i (.tup []) [(id, some (.arr te.size (xs.take lo ++ List.replicate len te.zero ++ xs.drop (lo + len))))] f w' (.tuple #[]) := by
  have hund := TI.Ok.und_slice hT ht hk
  have ea : args = #[x] := by apply Array.ext'; simpa using ha
  have et : argTypes[0]? = some t := by rw [← Array.getElem?_toList, hts]; rfl
  subst ea
  have hsame : len = 0 → Out f st w i (.tup []) [(id, some (.arr te.size (xs.take lo ++ List.replicate len te.zero ++ xs.drop (lo + len))))] f w (.tuple #[]) := by
    intro h0
    subst h0
    have e1 : xs.take lo ++ List.replicate 0 te.zero ++ xs.drop (lo + 0) = xs := by simp
    rw [e1]
    have q := out_val hr i (.tup []) (.tuple #[]) (R.undef _ _ _)
    have e2 := updO_same hid
    exact ⟨q.le, by rw [e2]; exact q.fr, by rw [e2]; exact q.o, R.undef _ _ _, q.new⟩
  have hR := hr.ev x
  rw [hx] at hR
  generalize hv : a.eval x = u at hR
  cases hR with
  | ref0 => exact ⟨w, by simp [execOp, hop, hv, resolve, invoke, builtin, Builtin.clear_, et, run_underlying hund], hsame rfl⟩
  | ref _ _ _ g cap z n ad hloc hl hb =>
    rcases Nat.eq_zero_or_pos len with h0 | h0
    · subst h0
      exact ⟨w, by simp [execOp, hop, hv, resolve, invoke, builtin, Builtin.clear_, et, run_underlying hund], hsame rfl⟩
    · obtain ⟨rfl, rfl, hz0, cur, ety, h5, h6, hcap, hcm, h7, h8⟩ := arr_place (hr.o.at_ id _ hid) hloc
      have had := hb (.inl (by omega))
      subst had
      obtain ⟨zv, hzv, hzo, hzs⟩ := (hT e te hte).run_zero w
      have hz2 := (hT e te hte).zero
      have hzb := (R.ofVal w f (fun _ => False) zv)
      rw [hzo] at hzb
      have hrow := fun own' => (hzo ▸ R.ofVal (w.setRow g #[]) f own' zv : R (w.setRow g #[]) f own' zv te.zero)
      have hzone : ∀ v ∈ (Builtin.zeroCells zv.cells len).toList, v.oneCell' = true := by
        intro v hv
        rw [Array.mem_toList_iff] at hv
        unfold Builtin.zeroCells at hv
        obtain ⟨c', _, hc2⟩ := Array.mem_map.1 hv
        have hs : 0 < zv.cells.size := by rw [hzs]; exact (hT e te hte).pos.1
        have hlt : c' % zv.cells.size < zv.cells.size := Nat.mod_lt _ hs
        have hbr := hzb.box_row hz2.1
        have hgp := getElem!_pos zv.cells (c' % zv.cells.size) hlt
        rw [hgp] at hc2
        have hlt2 : c' % zv.cells.size < te.zero.cells.length := by rw [← hbr.1]; exact hlt
        have := hbr.2 (c' % zv.cells.size) _ _ (List.getElem?_eq_getElem hlt2) (Array.getElem?_eq_getElem hlt)
        rw [← hc2]
        exact this.one (AV.good.one (hz2.2.2 _ (List.getElem_mem hlt2)))
      have hzl : (Builtin.zeroCells zv.cells len).toList.length = len * te.size := by simp [Builtin.zeroCells, hzs]
      have hm1 : (lo + len) * te.size ≤ cap * te.size := Nat.mul_le_mul_right _ (by omega)
      have hm2 : (lo + len) * te.size = lo * te.size + len * te.size := Nat.add_mul ..
      have hst := run_storeCells_at P g (lo * te.size) ety (Builtin.zeroCells zv.cells len).toList 0 cur w h5 (by rw [hzl]; omega) hzone
      simp only [Nat.add_zero, hzl] at hst
      have hex : (execOp a.eval op).run P w = .ok (.value (.tuple #[])) (w.setRow g (cur.toList.take (lo * te.size) ++ (Builtin.zeroCells zv.cells len).toList ++ cur.toList.drop (lo * te.size + len * te.size)).toArray) := by
        cases len with
        | zero => cases h0
        | succ len => simp [execOp, hop, hv, resolve, invoke, builtin, Builtin.clear_, et, run_underlying hund, hzv, hst]
      refine ⟨_, hex, out_row hr i id (.arr te.size xs) _ hid g _ hloc rfl _ _ _ (fun own' hkp => ?_) (fun own' => R.undef _ _ _)⟩
      have hlen : (xs.take lo ++ List.replicate len te.zero ++ xs.drop (lo + len)).length = xs.length := by
        simp only [List.length_append, List.length_take, List.length_replicate, List.length_drop]; omega
      refine ⟨hz0, .inr ⟨g, cap, _, ety, by rw [hlen]; exact hloc, setRow_mk w g cur _ ety h5, ?_, by rw [hlen]; exact hcap, hcm, fun y hy => ?_, fun y hy c hc => ?_, ?_⟩⟩
      · have hcl : cur.toList.length = cap * te.size := by rw [Array.length_toList]; exact h6
        simp only [List.size_toArray, List.length_append, List.length_take, List.length_drop, hzl, hcl]
        omega
      · rcases List.mem_append.1 hy with hy | hy
        · rcases List.mem_append.1 hy with hy | hy
          · exact h7.zz y (List.mem_of_mem_take hy)
          · rw [List.mem_replicate] at hy; rw [hy.2]; exact hz2.2.1
        · exact h7.zz y (List.mem_of_mem_drop hy)
      · rcases List.mem_append.1 hy with hy | hy
        · rcases List.mem_append.1 hy with hy | hy
          · exact h8 y (List.mem_of_mem_take hy) c hc
          · rw [List.mem_replicate] at hy; rw [hy.2] at hc; exact hz2.2.2 c hc
        · exact h8 y (List.mem_of_mem_drop hy) c hc
      · have hmono : El (R (w.setRow g (cur.toList.take (lo * te.size) ++ (Builtin.zeroCells zv.cells len).toList ++ cur.toList.drop (lo * te.size + len * te.size)).toArray) f own') te.size cur.toList xs :=
          h7.imp fun _ _ h => h.mono f.le_refl hkp
        have hcl : cur.toList.length = cap * te.size := by rw [Array.length_toList]; exact h6
        have hm3 : lo * te.size ≤ cap * te.size := Nat.mul_le_mul_right _ (by omega)
        have e1 := hmono.take lo (by omega)
        have e2 := El.zeros (w := w.setRow g (cur.toList.take (lo * te.size) ++ (Builtin.zeroCells zv.cells len).toList ++ cur.toList.drop (lo * te.size + len * te.size)).toArray) (f := f) (own := own') len te.size zv.cells te.zero hz0 hzs hz2.2.1
          (fun k d u hd hu => ((hzo ▸ R.ofVal _ f own' zv : R _ f own' zv te.zero).box_row hz2.1).2 k d u hd hu)
        have e3 : El (R (w.setRow g (cur.toList.take (lo * te.size) ++ (Builtin.zeroCells zv.cells len).toList ++ cur.toList.drop (lo * te.size + len * te.size)).toArray) f own') te.size (cur.toList.drop (lo * te.size + len * te.size)) (xs.drop (lo + len)) := by
          refine ⟨fun y hy => h7.zz y (List.mem_of_mem_drop hy), ?_, fun j q y c hy hc => ?_⟩
          · rw [List.length_drop, List.length_drop, hcl, Nat.sub_mul]
            have : xs.length * te.size ≤ cap * te.size := Nat.mul_le_mul_right _ hcap
            omega
          · rw [List.getElem?_drop] at hy
            obtain ⟨v, hv, hrv⟩ := hmono.at_ _ q y c hy hc
            refine ⟨v, ?_, hrv⟩
            rw [List.getElem?_drop, ← hv]; congr 1
            rw [Nat.add_mul, hm2]; omega
        have e4 := e1.append e2 [] (by rw [List.length_take, List.length_take, Nat.min_eq_left (by omega : lo ≤ xs.length), hcl]; omega)
        rw [List.append_nil] at e4
        have e5 := e4.append e3 [] (by
          simp only [List.length_append, List.length_take, List.length_replicate]
          rw [Nat.min_eq_left (by omega : lo ≤ xs.length), hcl, Nat.add_mul]
          have : ((Array.range (len * te.size)).map (fun j => zv.cells[j % zv.cells.size]!)).toList.length = len * te.size := by simp
          omega)
        rw [List.append_nil] at e5
        intro j q y c hy hc
        obtain ⟨v, hv, hrv⟩ := e5.at_ j q y c hy hc
        refine ⟨v, ?_, hrv⟩
        rw [← hv]
        simp [Builtin.zeroCells, hzs]

theorem run_appendz0 (w : World) (t t2 ty e : TypeId) (it : TypeInfo) (kk k : IntKind) (ht : P.underlying t = some (.slice e)) (ht2 : P.underlying t2 = some (.int kk)) (hi : P.info? e = some it) :
    (Builtin.append_ #[t, t2] ty #[.slice none 0 0, .int k (0 : Nat)]).run P w = .ok (.slice none 0 0) w := by
  have hw : IntKind.i64.wrap ((0 : Nat) : Int) = 0 := by rw [IntKind.wrap_i64]; omega
  simp only [Int.natCast_zero] at hw
  simp [Builtin.append_, run_underlying ht, run_underlying ht2, sizeOf, typeInfo, hi, asInt, asIntOf, hw]

theorem appendz_out (hT : T.Ok P) {f : Phi} {st : St} {a : Act} {w : World} (hr : Rel f st a w) (hu : st.u i = false) (x y : Operand) (t t2 : Nat) (args : Array Operand) (argTypes : Array Nat) (hop : op.op = .call ⟨.builtin .append, args, argTypes⟩)
    (ha : args.toList = [x, y]) (hts : argTypes.toList = [t, t2]) (ti ti2 : TI) (ht : T t = some ti) (e : Nat) (hk : ti.k = .slice e) (te : TI) (hte : T e = some te) (kk : IntKind) (ht2 : T t2 = some ti2) (hk2 : ti2.k = .int kk)
    (hx : st.ev x = .nil) (k : IntKind) (n : Int) (hy : st.ev y = .i k n) (h0 : 0 ≤ n) (h1 : n * te.bytes ≤ 140737488355328) :
    ∃ f' r w', (execOp a.eval op).run P w = .ok (.value r) w' ∧ Out f st w i (.own (st.nx + 16 * i)) [(st.nx + 16 * i, some (.arr te.size (List.replicate n.toNat te.zero)))] f' w' r := by
  have ea : args = #[x, y] := by apply Array.ext'; simpa using ha
  have et : argTypes = #[t, t2] := by apply Array.ext'; simpa using hts
  subst ea; subst et
  have oke := hT e te hte
  obtain ⟨it, zv, i1, i2, i3, i4, i5, i6⟩ := oke.info
  have hz2 := oke.zero
  have e1 : a.eval x = .slice none 0 0 := by have := hr.ev x; rw [hx] at this; exact this.nil_inv
  have e2 : a.eval y = .int k n := by have := hr.ev y; rw [hy] at this; exact this.i_inv
  obtain ⟨m, rfl⟩ := Int.eq_ofNat_of_zero_le h0
  have hfit : m * te.bytes ≤ 140737488355328 := by
    have : ((m * te.bytes : Nat) : Int) = (m : Int) * (te.bytes : Int) := by push_cast; rfl
    omega
  have hexec : ∀ r w', (Builtin.append_ #[t, t2] op.type #[.slice none 0 0, .int k m]).run P w = .ok r w' → (execOp a.eval op).run P w = .ok (.value r) w' := by
    intro r w' hh
    simp [execOp, hop, resolve, invoke, builtin, e1, e2, hh]
  have hfr := (hr.fresh hu (b := st.nx + 16 * i) (Nat.le_refl _) (by omega)).1
  simp only [Int.toNat_natCast]
  by_cases hm : m = 0
  · subst hm
    have hrun := run_appendz0 (P := P) w t t2 op.type e it kk k (TI.Ok.und_slice hT ht hk) (TI.Ok.und_int hT ht2 hk2) i1
    refine ⟨putPhi f (st.nx + 16 * i) ⟨none, 0, te.size, 0⟩, _, w, hexec _ _ hrun, ?_⟩
    refine out_one hr i _ (st.nx + 16 * i) _ w (fun _ => False) _ _ (putPhi_le _ _ _ hfr) (fun n hn => putPhi_ne _ _ _ hn) (fun _ _ => ⟨Nat.le_refl _, by omega⟩) (Nat.le_refl _) rfl rfl rfl
      (fun _ h => h.elim) (fun g hg _ => rfl) (fun n ob hn h => by rwa [updO_one_ne _ _ _ hn] at h) (fun l' g hl' hg => ?_) (fun hk' ob' h => ?_) (fun hk' => .own0 _ _ (putPhi_self _ _ _))
    · rw [putPhi_self] at hl'; cases hl'; cases hg
    · rw [updO_one] at h; cases h; exact ⟨oke.pos.1, .inl ⟨putPhi_self _ _ _, rfl⟩⟩
  · have hrun := Lib.run_append_nil_zeros (P := P) w t t2 op.type e it zv k kk (TI.Ok.und_slice hT ht hk) (TI.Ok.und_int hT ht2 hk2) i1 i4 m (by omega) (by rw [i2]; exact oke.pos.1)
      (by have : m ≤ m * te.bytes := Nat.le_mul_of_pos_right _ oke.pos.2; omega) (by rw [i3]; omega)
    have hge := grownCap_ge w m 0 e
    have hle : m ≤ m * te.bytes := Nat.le_mul_of_pos_right _ oke.pos.2
    have hcm := grownCap_le_maxLen w m 0 e (by simp only [maxLen]; omega)
    generalize hG : grownCap w m 0 e = G at hrun hge hcm
    generalize hC : (Builtin.zeroCells zv.cells m ++ Builtin.zeroCells zv.cells (G - m) : Array Value) = C at hrun
    have hR := R.ofVal w f (owns f st.o) zv
    rw [i5] at hR
    have hbr := hR.box_row hz2.1
    have hel : El (R w f (owns f st.o)) te.size (Builtin.zeroCells zv.cells m).toList (List.replicate m te.zero) := El.zeros m te.size zv.cells te.zero oke.pos.1 i6 hz2.2.1 hbr.2 |> fun h => by
      have e0 : Builtin.zeroCells zv.cells m = (Array.range (m * te.size)).map (fun j => zv.cells[j % zv.cells.size]!) := by unfold Builtin.zeroCells; rw [show m * zv.cells.size = m * te.size by rw [i6]]
      rw [e0]; exact h
    have hCl : C.toList = (Builtin.zeroCells zv.cells m).toList ++ (Builtin.zeroCells zv.cells (G - m)).toList := by rw [← hC]; simp
    have hCs : C.size = G * te.size := by
      have hl := congrArg List.length hCl
      simp only [Array.length_toList, List.length_append, size_zeroCells, i6] at hl
      rw [hl, ← Nat.add_mul]; congr 1; omega
    have hpush : Pushed w (w.drew.alloc (.cells C e)) C e := ⟨by show (w.heap.push _)[w.heap.size]? = _; simp, by simp, fun g hg => by show (w.heap.push _)[g]? = _; rw [Array.getElem?_push, if_neg (by omega)], rfl, rfl, rfl⟩
    refine ⟨putPhi f (st.nx + 16 * i) ⟨some w.heap.size, G, te.size, m⟩, _, _, hexec _ _ hrun,
      out_new hr hu _ C e hpush _ _ rfl _ _ (fun own' hkk => ?_) (fun own' => .own _ _ _ _ _ (putPhi_self _ _ _))⟩
    refine ⟨oke.pos.1, .inr ⟨w.heap.size, G, C, e, by rw [List.length_replicate]; exact putPhi_self _ _ _, hpush.new, hCs, by rw [List.length_replicate]; exact hge, hcm,
      fun x hx => by rw [List.mem_replicate] at hx; rw [hx.2]; exact hz2.2.1, fun x hx d hd => by rw [List.mem_replicate] at hx; rw [hx.2] at hd; exact hz2.2.2 d hd, fun j q x' d hj hd => ?_⟩⟩
    obtain ⟨u, hu', hru⟩ := hel.at_ j q x' d hj hd
    have := (List.getElem?_eq_some_iff.1 hu').1
    exact ⟨u, by rw [← Array.getElem?_toList, hCl, List.getElem?_append_left this]; exact hu', hru.mono (putPhi_le _ _ _ hfr) hkk⟩

/-- And where its order is fixed. -/
theorem aopS_sound (hT : T.Ok P) {f : Phi} {st : St} {a : Act} {w : World} (hr : Rel f st a w) (hn : st.nx = nx) (hu : st.u i = false) (h : aopS P T (nx + 16 * i) st.ev st.o op.op K) :
    ∃ v wo ro, K v wo ro ∧ ∀ (next : Act → World → Prop) (Q : Exit → Act → World → Prop), (∀ f' r w', Out f st w i v wo f' w' r → next (a.put op.dst r) w') → op.wp P a w next Q := by
  have hcase : ∀ X : Gives P i op st.ev st.o nx K, ∃ v wo ro, K v wo ro ∧ ∀ (next : Act → World → Prop) (Q : Exit → Act → World → Prop), (∀ f' r w', Out f st w i v wo f' w' r → next (a.put op.dst r) w') → op.wp P a w next Q := by
    rintro ⟨v, wo, ro, h1, h2, _⟩
    exact ⟨v, wo, ro, h1, fun next Q hk => h2 f st a w hr hn hu (fun _ _ => rfl) (fun _ _ => rfl) next Q hk⟩
  have hval : ∀ (v : AV) (r : Value), K v [] [] → (execOp a.eval op).run P w = .ok (.value r) w → R w f (owns f st.o) r v →
      ∃ v wo ro, K v wo ro ∧ ∀ (next : Act → World → Prop) (Q : Exit → Act → World → Prop), (∀ f' r w', Out f st w i v wo f' w' r → next (a.put op.dst r) w') → op.wp P a w next Q := by
    intro v r h1 h2 h3
    refine ⟨v, [], [], h1, fun next Q hk => ?_⟩
    unfold Oper.wp
    rw [h2]
    exact hk f r w (out_val hr i v r h3)
  unfold aopS at h
  split at h
  · rename_i t x ty hop
    split at h
    · rename_i e _ _ _ ht
      split at h
      · rename_i xs hx
        obtain ⟨ad, c, hv, _, _⟩ := cont_len hr (hr.ev x) hx
        have hund := TI.Ok.und_slice hT ht (e := e) rfl
        have hex : (execOp a.eval op).run P w = .ok (.value (.bool ad.isNone)) w := by
          refine run_bin_of .eql t ty x _ hop a w _ ?_ ?_
          · rw [hv]; rfl
          · have := run_equal_slice_nil w t e ad xs.length c hund
            rw [hv]; simp only [binOp, Act.eval, Sem.run_bind, this]; rfl
        refine hval (.p (ad.isNone = true)) _ ((h.f _).f fun hq => ?_) hex (.p _ _ Iff.rfl)
        cases ad with
        | none =>
          obtain ⟨ad', c', hv', k1, k2⟩ := cont_len hr (hr.ev x) hx
          have hR := hr.ev x
          rw [hv] at hR
          exact nil_empty hr hR hx
        | some _ => cases hq
      · exact h.elim
    · exact hcase (aop_sound hT trivial hr rfl rfl (by rw [hop]; exact h))
  · rename_i args argTypes hop
    split at h
    · rename_i x t ts ha hts
      split at h
      · rename_i e _ _ _ ht
        have hund := TI.Ok.und_slice hT ht (e := e) rfl
        have ea : args = #[x] := by apply Array.ext'; simpa using ha
        have et : argTypes[0]? = some t := by rw [← Array.getElem?_toList, hts]; rfl
        subst ea
        split at h
        · rename_i hx
          have hR := hr.ev x
          rw [hx] at hR
          generalize hv : a.eval x = u at hR
          cases hR with
          | nil =>
            have hex : (execOp a.eval op).run P w = .ok (.value (.int .i64 0)) w := by
              simp [execOp, hop, hv, resolve, invoke, builtin, Builtin.cap_, et, run_underlying hund, goInt]
            exact hval (.i .i64 0) _ h hex (.i _ _)
        · split at h
          · rename_i xs hx
            obtain ⟨ad, c, hv, h1, h2⟩ := cont_len hr (hr.ev x) hx
            have hex : (execOp a.eval op).run P w = .ok (.value (.int .i64 c)) w := by
              simp [execOp, hop, hv, resolve, invoke, builtin, Builtin.cap_, et, run_underlying hund, goInt]
            exact hval (.i .i64 c) _ ((h.f c).f ⟨h1, h2⟩) hex (.i _ _)
          · exact h.elim
      · exact h.elim
    · exact h.elim
  · rename_i args argTypes hop
    split at h
    · rename_i x t ts ha hts
      split at h
      · rename_i e _ _ _ ht
        split at h
        · rename_i te hte
          split at h
          · rename_i id lo len hx
            split at h
            · rename_i z xs hid
              replace h := beq_ite0 h
              obtain ⟨hz, hle, h⟩ := h
              subst hz
              obtain ⟨w', h1, h2⟩ := clear_out hT hr x t ts args argTypes hop ha hts _ ht e rfl te hte id lo len hx xs hid hle
              refine ⟨_, _, _, h, fun next Q hk => ?_⟩
              unfold Oper.wp
              rw [h1]
              exact hk f _ w' h2
            · exact h.elim
          · exact h.elim
        · exact h.elim
      · exact h.elim
    · exact h.elim
  · rename_i args argTypes hop
    split at h
    · rename_i x y t t' ha hts
      split at h
      · rename_i kk _ _ _ ht2
        split at h
        · rename_i e _ _ _ ht
          split at h
          · rename_i te hte
            split at h
            · rename_i k n hx hy
              obtain ⟨⟨h0, h1⟩, h⟩ := h
              obtain ⟨f', r, w', h2, h3⟩ := appendz_out hT hr hu x y t t' args argTypes hop ha hts _ _ ht e rfl te hte kk ht2 rfl hx k n hy h0 h1
              rw [hn] at h3
              refine ⟨_, _, _, h, fun next Q hk => ?_⟩
              unfold Oper.wp
              rw [h2]
              exact hk f' r w' h3
            · exact h.elim
          · exact h.elim
        · exact h.elim
      · exact hcase (aop_sound hT trivial hr rfl rfl (by rw [hop]; exact h))
    · exact h.elim
  · rename_i t x lo hi hop
    split at h
    · rename_i hx
      split at h
      · rename_i e _ _ _ ht
        cases hte : T e with
        | none => rw [hte] at h; exact h.elim
        | some te =>
        rw [hte] at h
        obtain ⟨l, m, b, h1, h2, h3, h4, h5, h6⟩ := bnds_of h
        have : m = 0 := by omega
        subst this
        have : l = 0 := by omega
        subst this
        have hR := hr.ev x
        rw [hx] at hR
        generalize hv : a.eval x = u at hR
        cases hR with
        | nil =>
          have hund := TI.Ok.und_slice hT ht (e := e) rfl
          have e1 := h1.ev (a := a) (fun y _ => hr.ev y)
          have e2 := h2.ev (a := a) (fun y _ => hr.ev y)
          have hb := run_bounds (P := P) (w := w) true 0 0 0 0 _ _ e1 e2 (Nat.le_refl _) (Nat.le_refl _)
          have hn := (hT e te hte).run_sizeOf w
          have hex : (execOp a.eval op).run P w = .ok (.value (.slice none 0 0)) w := by
            simp [execOp, hop, Instr.sliceAt, Instr.slice, run_underlying hund, hv, hb, hn]
          exact hval .nil _ h6 hex .nil
      · exact h.elim
    · exact hcase (aop_sound hT trivial hr rfl rfl (by rw [hop]; exact h))
  · exact hcase (aop_sound hT trivial hr rfl rfl h)

end
end Go.Proofs.YtbknlijpkabcnaaGreat.K
