/- A contract for slices.Insert, out of its walks. No condition. -/
import Derived.Test.YtbknlijpkabcnaaGreatK29
namespace Go.Proofs.YtbknlijpkabcnaaGreat.K
set_option linter.all false
open Go

/-- What the walks tell of slices.Insert (z: the cells of an element). -/
structure InsWalks (P : Program) (f tS tI z : Nat) : Prop where
  stop : ∀ (w : World) (base ad : Option Addr) (n cap m c : Nat) (r : Value) (w1 : World), 0 < m →
    (∀ ty, (Builtin.append_ #[tS, tS] ty #[.slice base n cap, .slice ad m c]).run P w = .ok r w1) →
    Calls P f #[.slice base n cap, .int .i64 n, .slice ad m c] w fun e w' => e = .returned r ∧ w' = w1
  room : ∀ (w w1 w2 : World) (b n cap i vb m vc : Nat) (x1 x2 : Value) (lb cb : Nat) (curb curv : Array Value) (eb ev : TypeId), 0 < m → i < n → n + m ≤ cap → cap ≤ 9223372036854775807 → vb ≠ b →
    w.heap[b]? = some (.cells curb eb (0, 0)) → w.heap[vb]? = some (.cells curv ev (0, 0)) → 0 < curb.size →
    (∀ ty dc sc, (Builtin.copy_ #[tS, tS] ty #[.slice (some ⟨b, (i + m) * z, none⟩) (n + m - (i + m)) dc, .slice (some ⟨b, i * z, none⟩) (n + m - i) sc]).run P w.drew = .ok x1 w1) →
    (∀ ty dc, (Builtin.copy_ #[tS, tS] ty #[.slice (some ⟨b, i * z, none⟩) (n + m - i) dc, .slice (some ⟨vb, 0, none⟩) m vc]).run P w1 = .ok x2 w2) →
    Calls P f #[.slice (some ⟨b, 0, none⟩) n cap, .int .i64 i, .slice (some ⟨vb, 0, none⟩) m vc] w fun e w' => e = .returned (.slice (some ⟨b, 0, none⟩) (n + m) cap) ∧ w' = w2
  grow : ∀ (w w1 w2 w3 : World) (b g n cap G i vb m vc : Nat) (x2 x3 : Value), 0 < m → i < n → n ≤ cap → cap < n + m → n + m ≤ G → cap ≤ 9223372036854775807 → G ≤ 9223372036854775807 → n + m ≤ 9223372036854775807 →
    (∀ ty, (Builtin.append_ #[tS, tI] ty #[.slice (some ⟨b, 0, none⟩) i cap, .int .i64 ((n : Int) + (m : Int) - (i : Int))]).run P w = .ok (.slice (some ⟨g, 0, none⟩) (n + m) G) w1) →
    (∀ ty dc, (Builtin.copy_ #[tS, tS] ty #[.slice (some ⟨g, i * z, none⟩) (n + m - i) dc, .slice (some ⟨vb, 0, none⟩) m vc]).run P w1 = .ok x2 w2) →
    (∀ ty dc sc, (Builtin.copy_ #[tS, tS] ty #[.slice (some ⟨g, (i + m) * z, none⟩) (n + m - (i + m)) dc, .slice (some ⟨b, i * z, none⟩) (n - i) sc]).run P w2.drew = .ok x3 w3) →
    Calls P f #[.slice (some ⟨b, 0, none⟩) n cap, .int .i64 i, .slice (some ⟨vb, 0, none⟩) m vc] w fun e w' => e = .returned (.slice (some ⟨g, 0, none⟩) (n + m) G) ∧ w' = w3

theorem con_insert {P : Program} {T : Tab} (hT : Tab.Ok P T) {f : FuncId} {tS tI e : Nat} {ti te tii : TI} (ht : T tS = some ti) (hk : ti.k = .slice e) (hte : T e = some te) (hti : T tI = some tii) (hki : tii.k = .int .i64)
    (hent : ∀ args w, (callFunc f args).run P w = .ok (.enter f args) w) (W : InsWalks P f tS tI te.size) {xs ys : List AV} {i : Nat} (hi : i ≤ xs.length) (hm : 0 < ys.length) (hb : (xs.length + ys.length) * te.bytes ≤ 140737488355328) :
    Con P f [.own 0, .i .i64 (i : Int), .own 1] [.arr te.size xs, .arr te.size ys] (.own 2) [none, none, some (.arr te.size (xs.take i ++ ys ++ xs.drop i))] := by
  intro φ w vs ho hx hj hl hR
  match vs, hl, hR with
  | [s, iv, v], _, hR =>
  have hs := hR 0 s _ rfl rfl
  have hiv := (hR 1 iv _ rfl rfl).i_inv
  have hv := hR 2 v _ rfl rfl
  subst hiv
  obtain ⟨hz0, as⟩ := arr_inv hs (ho.at_ 0 _ rfl)
  obtain ⟨_, av⟩ := arr_inv hv (ho.at_ 1 _ rfl)
  rcases av with ⟨_, hv0⟩ | ⟨gv, capv, curv, ev, rfl, hv1, hv2, hv3, hv4, hv5, hv6, hv7⟩
  · rw [hv0] at hm; exact absurd hm (Nat.lt_irrefl _)
  refine .inl ⟨hent _ _, ?_⟩
  show Calls P f #[s, .int .i64 (i : Int), .slice (some ⟨gv, 0, none⟩) ys.length capv] w _
  have okt := hT tS ti ht
  have oke := hT e te hte
  have hund := TI.Ok.und_slice hT ht hk
  obtain ⟨it, zv, i1, i2, i3, i4, i5, i6⟩ := oke.info
  have hsz : (P.info? e).map (·.size) = some te.size := by rw [i1, Option.map_some, i2]
  have hib : it.bytes ≠ 0 := by rw [i3]; have := oke.pos.2; omega
  have hle : xs.length + ys.length ≤ (xs.length + ys.length) * te.bytes := Nat.le_mul_of_pos_right _ oke.pos.2
  generalize hz : te.size = z at *
  -- what is put in
  have hcv : curv.toList.length = capv * z := by rw [Array.length_toList]; exact hv3
  have hmz : ys.length * z ≤ capv * z := Nat.mul_le_mul_right _ hv4
  obtain ⟨news, hnews⟩ : ∃ news, news = curv.toList.take (ys.length * z) := ⟨_, rfl⟩
  have nl : news.length = ys.length * z := by rw [hnews, List.length_take, hcv]; omega
  have nel : El (R w φ (owns φ fun j => [AObj.arr z xs, .arr z ys][j]?)) z news ys := by
    have := hv6.take ys.length (Nat.le_refl _)
    rw [List.take_length] at this
    rw [hnews]; exact this
  have none1 := nel.one nl hz0 hv7
  have ncell : ∀ j u, news[j]? = some u → w.cell? ((⟨gv, 0, none⟩ : Addr).add j) = some u := fun j u hju => by
    rw [hnews, List.getElem?_take] at hju
    split at hju
    · rw [add_mk, Nat.zero_add, cell_mk hv2, ← Array.getElem?_toList]; exact hju
    · cases hju
  have nfirst : ∀ w2 : World, w2.heap[gv]? = w.heap[gv]? → (Builtin.firstCells z ys.length (.slice (some ⟨gv, 0, none⟩) ys.length capv)).run P w2 = .ok news.toArray w2 := fun w2 h2 =>
    run_firstCells_some (P := P) w2 z ys.length ⟨gv, 0, none⟩ ys.length capv news nl fun j u hju => by
      have := ncell j u hju
      rw [add_mk] at this ⊢
      rw [cell_mk (h2.trans hv2)]; rw [cell_mk hv2] at this; exact this
  have zlen : (xs.take i ++ ys ++ xs.drop i).length = xs.length + ys.length := by rw [List.length_append, List.length_append, List.length_take, List.length_drop]; omega
  have good : ∀ (hx7 : ∀ x ∈ xs, ∀ c ∈ x.cells, c.good = true), ∀ x ∈ xs.take i ++ ys ++ xs.drop i, ∀ c ∈ x.cells, c.good = true := fun hx7 x hxm => by
    rcases List.mem_append.1 hxm with hxm | hxm
    · rcases List.mem_append.1 hxm with hxm | hxm
      · exact hx7 x (List.mem_of_mem_take hxm)
      · exact hv7 x hxm
    · exact hx7 x (List.mem_of_mem_drop hxm)
  have fin : ∀ (w' : World) (g cap : Nat) (C : Array Value) (e' : TypeId), (∀ x ∈ xs, ∀ c ∈ x.cells, c.good = true) → w'.heap[g]? = some (.cells C e' (0, 0)) → C.size = cap * z → xs.length + ys.length ≤ cap → cap ≤ maxLen →
      El (R w φ (owns φ fun j => [AObj.arr z xs, .arr z ys][j]?)) z C.toList (xs.take i ++ ys ++ xs.drop i) → w.heap.size ≤ w'.heap.size → (∀ k, k < w.heap.size → k ≠ g → w'.heap[k]? = w.heap[k]?) → w'.os = w.os → w'.tape = w.tape → w'.output = w.output →
      ((∃ l, φ 0 = some l ∧ l.blk = some g) ∨ w.heap.size ≤ g) → (fun (e : Ending) (w' : World) => ∃ v, e = .returned v ∧ ∃ φ' : Phi, φ.le φ' ∧ ORel φ' (fun j => ([none, none, some (AObj.arr z (xs.take i ++ ys ++ xs.drop i))][j]?).join) w' ∧
        R w' φ' (owns φ' fun j => ([none, none, some (AObj.arr z (xs.take i ++ ys ++ xs.drop i))][j]?).join) v (.own 2) ∧
        Fr w (live φ fun j => [AObj.arr z xs, .arr z ys][j]?) w' (live φ' fun j => ([none, none, some (AObj.arr z (xs.take i ++ ys ++ xs.drop i))][j]?).join) ∧ ∀ j, [none, none, some (AObj.arr z (xs.take i ++ ys ++ xs.drop i))].length ≤ j → φ' j = none)
        (.returned (.slice (some ⟨g, 0, none⟩) (xs.length + ys.length) cap)) w' := by
    intro w' g cap C e' h1 h2 h3 h4 h5 h6 h7 h8 h9 h10 h11 h12
    have := ins_post ho hx hj w' g cap z C e' _ hz0 h2 h3 (by rw [zlen]; exact h4) h5 (good h1) h6 h7 h8 h9 h10 h11 h12
    rw [zlen] at this
    exact ⟨_, rfl, this⟩
  revert fin
  generalize (fun (e : Ending) (w' : World) => ∃ v, e = .returned v ∧ ∃ φ' : Phi, φ.le φ' ∧ ORel φ' (fun j => ([none, none, some (AObj.arr z (xs.take i ++ ys ++ xs.drop i))][j]?).join) w' ∧
        R w' φ' (owns φ' fun j => ([none, none, some (AObj.arr z (xs.take i ++ ys ++ xs.drop i))][j]?).join) v (.own 2) ∧
        Fr w (live φ fun j => [AObj.arr z xs, .arr z ys][j]?) w' (live φ' fun j => ([none, none, some (AObj.arr z (xs.take i ++ ys ++ xs.drop i))][j]?).join) ∧ ∀ j, [none, none, some (AObj.arr z (xs.take i ++ ys ++ xs.drop i))].length ≤ j → φ' j = none) = Q
  intro fin
  -- the elements of a new row
  have grown : ∀ (base : Option Addr) (cap : Nat) (olds : List Value) (hx7 : ∀ x ∈ xs, ∀ c ∈ x.cells, c.good = true), i = xs.length → s = .slice base xs.length cap → (Builtin.firstCells z xs.length (.slice base xs.length cap)).run P w.drew = .ok olds.toArray w.drew → olds.length = xs.length * z →
      El (R w φ (owns φ fun j => [AObj.arr z xs, .arr z ys][j]?)) z olds xs → cap < xs.length + ys.length → Calls P f #[s, .int .i64 (i : Int), .slice (some ⟨gv, 0, none⟩) ys.length capv] w Q := by
    intro base cap olds hx7 hin hsv hfc hol hel hlt
    have hrun := fun ty => run_append_grown (P := P) w tS ty e it zv hund i1 i4 hib base xs.length cap ys.length (.slice (some ⟨gv, 0, none⟩) ys.length capv) _ _ rfl olds.toArray news.toArray (by rw [i2]; exact hfc) (by rw [i2]; exact nfirst w.drew rfl) hlt (by rw [i3]; exact hb)
    have hge := grownCap_ge w (xs.length + ys.length) cap e
    have hcm := grownCap_le_maxLen w (xs.length + ys.length) cap e (by simp only [maxLen]; omega)
    generalize hG : grownCap w (xs.length + ys.length) cap e = G at hrun hge hcm
    generalize hC : (olds.toArray ++ news.toArray ++ Builtin.zeroCells zv.cells (G - (xs.length + ys.length)) : Array Value) = C at hrun
    have hCl : C.toList = olds ++ news ++ (Builtin.zeroCells zv.cells (G - (xs.length + ys.length))).toList := by rw [← hC]; simp
    have hCs : C.size = G * z := by
      have hl := congrArg List.length hCl
      simp only [Array.length_toList, List.length_append, size_zeroCells, nl, i6, hol] at hl
      rw [hl, ← Nat.add_mul, ← Nat.add_mul]; congr 1; omega
    have hpush : Pushed w (w.drew.alloc (.cells C e)) C e := ⟨by show (w.heap.push _)[w.heap.size]? = _; simp, by simp, fun g hg => by show (w.heap.push _)[g]? = _; rw [Array.getElem?_push, if_neg (by omega)], rfl, rfl, rfl⟩
    subst hsv
    subst hin
    refine (W.stop w base _ xs.length cap ys.length capv _ _ hm hrun).mono ?_
    rintro e2 w2 ⟨rfl, rfl⟩
    refine fin _ _ G C e hx7 hpush.new hCs hge hcm ?_ hpush.size (fun k hk _ => hpush.old k hk) rfl rfl rfl (.inr (Nat.le_refl _))
    rw [List.take_length, List.drop_length, List.append_nil, hCl]
    exact El.append hel nel _ hol
  have cap63 : maxLen = 9223372036854775807 := rfl
  have firstOf : ∀ (g cap : Nat) (cur : Array Value) (e' : TypeId) (k c : Nat), w.heap[g]? = some (.cells cur e' (0, 0)) → k * z ≤ cur.size → (Builtin.firstCells z k (.slice (some ⟨g, 0, none⟩) k c)).run P w.drew = .ok (cur.toList.take (k * z)).toArray w.drew := by
    intro g cap cur e' k c hg hk2
    refine run_firstCells_some (P := P) w.drew z k ⟨g, 0, none⟩ k c _ (by rw [List.length_take, Array.length_toList]; omega) fun j v hj => ?_
    rw [List.getElem?_take] at hj
    split at hj
    · rw [add_mk, Nat.zero_add]
      show w.cell? ⟨g, j, none⟩ = _
      rw [cell_mk hg, ← Array.getElem?_toList]; exact hj
    · cases hj
  by_cases hin : i = xs.length
  · rcases as with ⟨hs0, hx0⟩ | ⟨g, cap, cur, e', hsv, hs1, hs2, hs3, hs4, hs5, hs6, hs7⟩
    · have hx1 : xs.length = 0 := by rw [hx0]; rfl
      refine grown none 0 [] (fun x hx => by rw [hx0] at hx; cases hx) hin (by rw [hx1]; exact hs0) (by rw [hx1]; simp [Builtin.firstCells]) (by rw [hx1]; simp) ?_ (by omega)
      rw [hx0]
      exact ⟨fun y hy => by simp at hy, by simp, fun j q y c hj => by simp at hj⟩
    · have hnz : xs.length * z ≤ cur.size := by rw [hs3]; exact Nat.mul_le_mul_right _ hs4
      have hel0 := hs6.take xs.length (Nat.le_refl _)
      rw [List.take_length] at hel0
      have hol : (cur.toList.take (xs.length * z)).length = xs.length * z := by
        have hct : cur.toList.length = cur.size := Array.length_toList
        rw [List.length_take]; omega
      by_cases hroom : xs.length + ys.length ≤ cap
      · have hfit : xs.length * z + news.length ≤ cur.size := by rw [nl, hs3, ← Nat.add_mul]; exact Nat.mul_le_mul_right _ hroom
        have hst := run_storeCells_at P g (xs.length * z) e' news 0 cur w hs2 (by simpa using hfit) none1
        rw [Nat.add_zero] at hst
        have hrun := fun ty => run_append_kept (P := P) w tS ty e it hund i1 (some ⟨g, 0, none⟩) xs.length cap ys.length (.slice (some ⟨gv, 0, none⟩) ys.length capv) _ _ rfl news.toArray (by rw [i2]; exact nfirst w rfl) hroom _
          (by simp only [add_mk, Nat.zero_add, i2]; exact hst)
        generalize hC : (cur.toList.take (xs.length * z) ++ news ++ cur.toList.drop (xs.length * z + news.length)).toArray = C at hrun
        have hCl : C.toList = cur.toList.take (xs.length * z) ++ news ++ cur.toList.drop (xs.length * z + news.length) := by rw [← hC]
        subst hsv
        subst hin
        refine (W.stop w (some ⟨g, 0, none⟩) _ xs.length cap ys.length capv _ _ hm hrun).mono ?_
        rintro e2 w2 ⟨rfl, rfl⟩
        refine fin _ g cap C e' hs7 (setRow_mk w g cur C e' hs2) ?_ hroom hs5 ?_ (by simp [World.setRow]) (fun k _ hn => setRow_other w g k C hn) rfl rfl rfl (.inl ⟨_, hs1, rfl⟩)
        · have hl := congrArg List.length hCl
          simp only [Array.length_toList, List.length_append, List.length_drop, hol] at hl
          omega
        · rw [List.take_length, List.drop_length, List.append_nil, hCl]
          exact El.append hel0 nel _ hol
      · exact grown (some ⟨g, 0, none⟩) cap _ hs7 hin hsv (firstOf g cap cur e' xs.length cap hs2 hnz) hol hel0 (by omega)
  · have hlt : i < xs.length := by omega
    rcases as with ⟨_, hx0⟩ | ⟨g, cap, cur, e', rfl, hs1, hs2, hs3, hs4, hs5, hs6, hs7⟩
    · rw [hx0] at hlt; exact absurd hlt (Nat.not_lt_zero _)
    have hne : gv ≠ g := fun h => by
      subst h
      have := ho.inj 0 1 _ _ _ _ gv rfl rfl hs1 hv1 rfl rfl
      omega
    have hcc : cur.toList.length = cap * z := (Array.length_toList (xs := cur)).trans hs3
    have hnz : xs.length * z ≤ cap * z := Nat.mul_le_mul_right _ hs4
    have hiz : i * z ≤ xs.length * z := Nat.mul_le_mul_right _ hi
    have hsub : (xs.length - i) * z = xs.length * z - i * z := Nat.sub_mul ..
    have hiz1 : (i + 1) * z ≤ xs.length * z := Nat.mul_le_mul_right _ hlt
    rw [Nat.add_mul] at hiz1
    have him : (i + ys.length) * z = i * z + ys.length * z := Nat.add_mul ..
    have hdl : (xs.drop i).length = xs.length - i := List.length_drop
    obtain ⟨rest, hrest⟩ : ∃ r, r = (cur.toList.drop (i * z)).take ((xs.length - i) * z) := ⟨_, rfl⟩
    have rl : rest.length = (xs.length - i) * z := by rw [hrest, List.length_take, List.length_drop, hcc]; omega
    have rel : El (R w φ (owns φ fun j => [AObj.arr z xs, .arr z ys][j]?)) z rest (xs.drop i) := by rw [hrest]; exact hs6.drop i hi
    have rone := rel.one (by rw [hdl]; exact rl) hz0 fun x hx => hs7 x (List.mem_of_mem_drop hx)
    have rcell : ∀ j u, rest[j]? = some u → cur[i * z + j]? = some u := fun j u hju => by
      rw [hrest, List.getElem?_take] at hju
      split at hju
      · rw [List.getElem?_drop] at hju; rw [← Array.getElem?_toList]; exact hju
      · cases hju
    have hel := hs6.take i hi
    have hal : (cur.toList.take (i * z)).length = i * z := by rw [List.length_take]; omega
    have halx : (xs.take i).length = i := by rw [List.length_take]; omega
    have elems : ∀ tl, El (R w φ (owns φ fun j => [AObj.arr z xs, .arr z ys][j]?)) z (cur.toList.take (i * z) ++ news ++ (rest ++ tl)) (xs.take i ++ ys ++ xs.drop i) := fun tl => by
      have h1 := El.append hel nel [] (by rw [hal, halx])
      rw [List.append_nil] at h1
      have h2 := El.append h1 rel tl (by rw [List.length_append, List.length_append, hal, nl, halx, Nat.add_mul])
      rw [← List.append_assoc]; exact h2
    by_cases hroom : xs.length + ys.length ≤ cap
    · have hnm : xs.length * z + ys.length * z ≤ cap * z := by rw [← Nat.add_mul]; exact Nat.mul_le_mul_right _ hroom
      have hcp1 := fun ty dc sc => run_copy_rowz (P := P) w.drew tS tS ty e z g ((i + ys.length) * z) (xs.length + ys.length - (i + ys.length)) dc ⟨g, i * z, none⟩ (xs.length + ys.length - i) sc (xs.length - i) cur e' rest hund hsz hs2
        (by simp only [Nat.min_def]; split <;> omega) rl (fun j u hju => by rw [add_mk]; show w.cell? _ = _; rw [cell_mk hs2]; exact rcell j u hju) (by rw [rl]; omega) rone
      generalize hC1 : (cur.toList.take ((i + ys.length) * z) ++ rest ++ cur.toList.drop ((i + ys.length) * z + rest.length)).toArray = C1 at hcp1
      have hCl1 : C1.toList = cur.toList.take ((i + ys.length) * z) ++ rest ++ cur.toList.drop ((i + ys.length) * z + rest.length) := by rw [← hC1]
      have hCs1 : C1.size = cap * z := by
        have hl := congrArg List.length hCl1
        simp only [Array.length_toList, List.length_append, List.length_drop, List.length_take, rl] at hl
        omega
      have hcp2 := fun ty dc => run_copy_rowz (P := P) (w.drew.setRow g C1) tS tS ty e z g (i * z) (xs.length + ys.length - i) dc ⟨gv, 0, none⟩ ys.length capv ys.length C1 e' news hund hsz (setRow_mk w.drew g cur C1 e' hs2)
        (by simp only [Nat.min_def]; split <;> omega) nl (fun j u hju => by
          have := ncell j u hju
          rw [add_mk] at this ⊢
          rw [cell_mk (w := w.drew.setRow g C1) ((setRow_other w.drew g gv C1 hne).trans hv2)]
          rw [cell_mk hv2] at this; exact this) (by rw [nl, hCs1]; omega) none1
      generalize hC2 : (C1.toList.take (i * z) ++ news ++ C1.toList.drop (i * z + news.length)).toArray = C2 at hcp2
      have hCl2 : C2.toList = cur.toList.take (i * z) ++ news ++ (rest ++ cur.toList.drop ((i + ys.length) * z + rest.length)) := by
        rw [← hC2, hCl1, nl, ← him]
        have q1 : (cur.toList.take ((i + ys.length) * z)).length = (i + ys.length) * z := by rw [List.length_take]; omega
        show _ = _
        rw [List.append_assoc (cur.toList.take ((i + ys.length) * z)), List.take_append_of_le_length (by omega), List.take_take, Nat.min_eq_left (by omega), List.drop_append_of_le_length (by omega), List.drop_of_length_le (by omega), List.nil_append]
      refine (W.room w _ _ g xs.length cap i gv ys.length capv _ _ 0 0 cur curv e' ev hm hlt hroom (by omega) hne hs2 hv2 (by omega) hcp1 hcp2).mono ?_
      rintro e2 w2 ⟨rfl, rfl⟩
      refine fin _ g cap C2 e' hs7 (setRow_mk _ g C1 C2 e' (setRow_mk w.drew g cur C1 e' hs2)) ?_ hroom hs5 ?_ (by simp [World.setRow]) (fun k _ hn => (setRow_other _ g k C2 hn).trans (setRow_other _ g k C1 hn)) rfl rfl rfl (.inl ⟨_, hs1, rfl⟩)
      · have hl := congrArg List.length hCl2
        simp only [Array.length_toList, List.length_append, List.length_drop, hal, rl, nl] at hl
        omega
      · rw [hCl2]; exact elems _
    · have hkp : i + (xs.length + ys.length - i) = xs.length + ys.length := by omega
      have hkb : (xs.length + ys.length - i) * it.bytes ≤ (xs.length + ys.length) * it.bytes := Nat.mul_le_mul_right _ (by omega)
      have hkc : ((xs.length + ys.length - i : Nat) : Int) = (xs.length : Int) + (ys.length : Int) - (i : Int) := by omega
      have hgs := growslice_fits (by omega : cap < xs.length + ys.length) (by rw [i3]; exact hb : (xs.length + ys.length) * it.bytes ≤ 140737488355328)
      have hap := fun ty => Lib.run_append_grow_zeros (P := P) w tS tI ty e it zv .i64 .i64 hund (TI.Ok.und_int hT hti hki) i1 i4 (some ⟨g, 0, none⟩) i cap (cur.toList.take (i * z)) (by rw [i2]; exact firstOf g cap cur e' i cap hs2 (by omega))
        (xs.length + ys.length - i) (by omega) (by omega) (by omega) (by omega) (by rw [i3] at hkb ⊢; omega) (by rw [hkp]; exact hgs)
      rw [hkp, hkc] at hap
      have hge := grownCap_ge w (xs.length + ys.length) cap e
      have hcm := grownCap_le_maxLen w (xs.length + ys.length) cap e (by omega)
      generalize hG : grownCap w (xs.length + ys.length) cap e = G at hap hge hcm
      generalize hC1 : ((cur.toList.take (i * z)).toArray ++ Builtin.zeroCells zv.cells (xs.length + ys.length - i) ++ Builtin.zeroCells zv.cells (G - (xs.length + ys.length)) : Array Value) = C1 at hap
      have hCl1 : C1.toList = cur.toList.take (i * z) ++ ((Builtin.zeroCells zv.cells (xs.length + ys.length - i)).toList ++ (Builtin.zeroCells zv.cells (G - (xs.length + ys.length))).toList) := by rw [← hC1]; simp
      have hCs1 : C1.size = G * z := by
        have hl := congrArg List.length hCl1
        simp only [Array.length_toList, List.length_append, size_zeroCells, i6, hal] at hl
        rw [hl, ← Nat.add_mul, ← Nat.add_mul]; congr 1; omega
      have hnm : xs.length * z + ys.length * z ≤ G * z := by rw [← Nat.add_mul]; exact Nat.mul_le_mul_right _ hge
      have hpush : Pushed w (w.drew.alloc (.cells C1 e)) C1 e := ⟨by show (w.heap.push _)[w.heap.size]? = _; simp, by simp, fun g hg => by show (w.heap.push _)[g]? = _; rw [Array.getElem?_push, if_neg (by omega)], rfl, rfl, rfl⟩
      have hgl : g < w.heap.size := (Array.getElem?_eq_some_iff.1 hs2).1
      have hgvl : gv < w.heap.size := (Array.getElem?_eq_some_iff.1 hv2).1
      have hcp1 := fun ty dc => run_copy_rowz (P := P) (w.drew.alloc (.cells C1 e)) tS tS ty e z w.heap.size (i * z) (xs.length + ys.length - i) dc ⟨gv, 0, none⟩ ys.length capv ys.length C1 e news hund hsz hpush.new
        (by simp only [Nat.min_def]; split <;> omega) nl (fun j u hju => by
          have := ncell j u hju
          rw [add_mk] at this ⊢
          rw [cell_mk ((hpush.old gv hgvl).trans hv2)]
          rw [cell_mk hv2] at this; exact this) (by rw [nl, hCs1]; omega) none1
      generalize hC2 : (C1.toList.take (i * z) ++ news ++ C1.toList.drop (i * z + news.length)).toArray = C2 at hcp1
      have hCl2 : C2.toList = cur.toList.take (i * z) ++ news ++ C1.toList.drop (i * z + news.length) := by
        rw [← hC2]
        show C1.toList.take (i * z) ++ news ++ _ = _
        rw [hCl1, List.take_append_of_le_length (by omega), List.take_take, Nat.min_self]
      have hCs2 : C2.size = G * z := by
        have hl := congrArg List.length hCl2
        simp only [Array.length_toList, List.length_append, List.length_drop, nl, hal, hCs1] at hl
        omega
      have hrow2 := setRow_mk (w.drew.alloc (.cells C1 e)) w.heap.size C1 C2 e hpush.new
      have hcp2 := fun ty dc sc => run_copy_rowz (P := P) ((w.drew.alloc (.cells C1 e)).setRow w.heap.size C2).drew tS tS ty e z w.heap.size ((i + ys.length) * z) (xs.length + ys.length - (i + ys.length)) dc ⟨g, i * z, none⟩ (xs.length - i) sc (xs.length - i) C2 e rest hund hsz
        hrow2 (by simp only [Nat.min_def]; split <;> omega) rl (fun j u hju => by
          rw [add_mk]
          show ((w.drew.alloc (.cells C1 e)).setRow w.heap.size C2).cell? _ = _
          rw [cell_mk ((setRow_other (w.drew.alloc (.cells C1 e)) w.heap.size g C2 (by omega)).trans ((hpush.old g hgl).trans hs2))]
          exact rcell j u hju) (by rw [rl, hCs2]; omega) rone
      generalize hC3 : (C2.toList.take ((i + ys.length) * z) ++ rest ++ C2.toList.drop ((i + ys.length) * z + rest.length)).toArray = C3 at hcp2
      have hCl3 : C3.toList = cur.toList.take (i * z) ++ news ++ (rest ++ C2.toList.drop ((i + ys.length) * z + rest.length)) := by
        rw [← hC3]
        show C2.toList.take ((i + ys.length) * z) ++ rest ++ _ = _
        have q : C2.toList.take ((i + ys.length) * z) = cur.toList.take (i * z) ++ news := by
          have ql : (cur.toList.take (i * z) ++ news).length = (i + ys.length) * z := by rw [List.length_append, hal, nl, him]
          rw [hCl2, List.take_append_of_le_length (by omega), List.take_of_length_le (by omega)]
        rw [q, List.append_assoc]
      refine (W.grow w _ _ _ g w.heap.size xs.length cap G i gv ys.length capv _ _ hm hlt hs4 (by omega) hge (by omega) (by omega) (by omega) hap hcp1 hcp2).mono ?_
      rintro e2 w2 ⟨rfl, rfl⟩
      refine fin _ w.heap.size G C3 e hs7 (setRow_mk _ w.heap.size C2 C3 e hrow2) ?_ hge hcm ?_ (by simp [World.setRow]) (fun k hk hn => (setRow_other _ w.heap.size k C3 hn).trans ((setRow_other (w.drew.alloc (.cells C1 e)) w.heap.size k C2 hn).trans (hpush.old k hk))) rfl rfl rfl (.inr (Nat.le_refl _))
      · have hl := congrArg List.length hCl3
        simp only [Array.length_toList, List.length_append, List.length_drop, hal, rl, nl, hCs2] at hl
        omega
      · rw [hCl3]; exact elems _

end Go.Proofs.YtbknlijpkabcnaaGreat.K
