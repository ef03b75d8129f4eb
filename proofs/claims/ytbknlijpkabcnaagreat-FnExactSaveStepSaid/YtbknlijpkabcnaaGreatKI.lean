/- The function slices.Insert of this seat, walked: what it runs. No condition. -/
import Derived.Test.YtbknlijpkabcnaaGreatK30
import Derived.Test.YtbknlijpkabcnaaGreatKT
import Derived.Test.YtbknlijpkabcnaaGreatChecked
import Derived.WalkKit
import Derived.Shelf.Spec.SlicesInsertGrow
namespace Go.Proofs.YtbknlijpkabcnaaGreat.K
set_option linter.all false
open Go Go.RowKit Go.Proofs

set_option maxHeartbeats 4000000 in
set_option maxRecDepth 100000 in
theorem ins_end (w : World) (base ad : Option Addr) (n cap m c : Nat) (r : Value) (w1 : World) (hm : 0 < m)
    (hrun : ∀ ty, (Builtin.append_ #[37, 37] ty #[.slice base n cap, .slice ad m c]).run Tryz.prog w = .ok r w1) :
    Calls Tryz.prog 157 #[.slice base n cap, .int .i64 n, .slice ad m c] w fun e w' => e = .returned r ∧ w' = w1 := by
  have hz1 : ¬ ((m : Int) = 0) := by omega
  go_enter Tryz.func157, Tryz.ntmps157
  cases base with
  | none =>
    go_wp2_with (at_builtin; refine Lib.wpList_append_run _ rfl _ _ _ _ rfl _ _ rfl rfl _ _ (hrun _) ?_)
    all_goals (go_ret; exact ⟨rfl, rfl⟩)
  | some a =>
    obtain ⟨ab, ao, asp⟩ := a
    go_wp2_with (at_builtin; refine Lib.wpList_append_run _ rfl _ _ _ _ rfl _ _ rfl rfl _ _ (hrun _) ?_)
    all_goals (go_ret; exact ⟨rfl, rfl⟩)

set_option maxHeartbeats 4000000 in
set_option maxRecDepth 100000 in
theorem ins_room (w w1 w2 : World) (b n cap i vb m vc : Nat) (x1 x2 : Value) (hm : 0 < m) (hi : i < n) (hroom : n + m ≤ cap) (hc63 : cap ≤ 9223372036854775807)
    (hov : ∀ lb cb, (callFunc 187 #[.slice (some ⟨vb, 0, none⟩) m vc, .slice (some ⟨b, (i + m) * 3, none⟩) lb cb]).run Tryz.prog w = .ok (.value (.bool false)) w)
    (hcp1 : ∀ ty dc sc, (Builtin.copy_ #[37, 37] ty #[.slice (some ⟨b, (i + m) * 3, none⟩) (n + m - (i + m)) dc, .slice (some ⟨b, i * 3, none⟩) (n + m - i) sc]).run Tryz.prog w.drew = .ok x1 w1)
    (hcp2 : ∀ ty dc, (Builtin.copy_ #[37, 37] ty #[.slice (some ⟨b, i * 3, none⟩) (n + m - i) dc, .slice (some ⟨vb, 0, none⟩) m vc]).run Tryz.prog w1 = .ok x2 w2) :
    Calls Tryz.prog 157 #[.slice (some ⟨b, 0, none⟩) n cap, .int .i64 i, .slice (some ⟨vb, 0, none⟩) m vc] w fun e w' => e = .returned (.slice (some ⟨b, 0, none⟩) (n + m) cap) ∧ w' = w2 := by
  have hz1 : ¬ ((m : Int) = 0) := by omega
  have hz2 : ¬ ((i : Int) = (n : Int)) := by omega
  have hz3 : ¬ ((cap : Int) < (n : Int) + (m : Int)) := by omega
  have hw1 : IntKind.i64.wrap ((i : Int) + (m : Int)) = (i : Int) + (m : Int) := by rw [IntKind.wrap_i64]; omega
  have hb1 : (0 : Int) ≤ (i : Int) + (m : Int) := by omega
  have hin : i ≤ n := by omega
  have htn : ((i : Int) + (m : Int)).toNat = i + m := by omega
  have hb2 : ¬ (cap = i + m) := by omega
  have hb3 : (i : Int) ≤ (n : Int) + (m : Int) := by omega
  have hb4 : ¬ (cap = i) := by omega
  have mixed := mixed
  go_enter Tryz.func157, Tryz.ntmps157
  go_wp2_with (simp only [hov])
  go_region_law_o (refine step_copy_runI rfl _ _ 37 37 rfl _ _ (by simp [Act.eval, Act.put]) (by simp [Act.eval, Act.put]) (hcp1 _ _ _) ?_)
  go_wp2_with (at_builtin; refine wpList_copy_runI _ rfl _ _ 37 37 rfl _ _ rfl rfl (hcp2 _ _) ?_)
  go_ret
  exact ⟨rfl, rfl⟩

set_option maxHeartbeats 4000000 in
set_option maxRecDepth 100000 in
theorem ins_grow (w w1 w2 w3 : World) (b g n cap G i vb m vc : Nat) (x2 x3 : Value) (hm : 0 < m) (hi : i < n) (hnc : n ≤ cap) (hroom : cap < n + m) (hG : n + m ≤ G) (hc63 : cap ≤ 9223372036854775807) (hG63 : G ≤ 9223372036854775807) (hbig : n + m ≤ 9223372036854775807)
    (hap : ∀ ty, (Builtin.append_ #[37, 3] ty #[.slice (some ⟨b, 0, none⟩) i cap, .int .i64 ((n : Int) + (m : Int) - (i : Int))]).run Tryz.prog w = .ok (.slice (some ⟨g, 0, none⟩) (n + m) G) w1)
    (hcp1 : ∀ ty dc, (Builtin.copy_ #[37, 37] ty #[.slice (some ⟨g, i * 3, none⟩) (n + m - i) dc, .slice (some ⟨vb, 0, none⟩) m vc]).run Tryz.prog w1 = .ok x2 w2)
    (hcp2 : ∀ ty dc sc, (Builtin.copy_ #[37, 37] ty #[.slice (some ⟨g, (i + m) * 3, none⟩) (n + m - (i + m)) dc, .slice (some ⟨b, i * 3, none⟩) (n - i) sc]).run Tryz.prog w2.drew = .ok x3 w3) :
    Calls Tryz.prog 157 #[.slice (some ⟨b, 0, none⟩) n cap, .int .i64 i, .slice (some ⟨vb, 0, none⟩) m vc] w fun e w' => e = .returned (.slice (some ⟨g, 0, none⟩) (n + m) G) ∧ w' = w3 := by
  have hz1 : ¬ ((m : Int) = 0) := by omega
  have hz2 : ¬ ((i : Int) = (n : Int)) := by omega
  have hz3 : (cap : Int) < (n : Int) + (m : Int) := by omega
  have hw1 : IntKind.i64.wrap ((i : Int) + (m : Int)) = (i : Int) + (m : Int) := by rw [IntKind.wrap_i64]; omega
  have hb1 : (0 : Int) ≤ (i : Int) + (m : Int) := by omega
  have hin : i ≤ n := by omega
  have htn : ((i : Int) + (m : Int)).toNat = i + m := by omega
  have hGi : ¬ (G = i) := by omega
  have hGim : ¬ (G = i + m) := by omega
  have hci : ¬ (cap = i) := by omega
  have hb3 : (i : Int) ≤ (n : Int) := by omega
  have mixed := mixed
  go_enter Tryz.func157, Tryz.ntmps157
  go_wp2_with (first
    | (at_builtin; refine Lib.wpList_append_run _ rfl _ _ _ _ rfl _ _ rfl rfl _ _ (hap _) ?_)
    | (at_builtin; refine wpList_copy_runI _ rfl _ _ 37 37 rfl _ _ rfl rfl (hcp1 _ _) ?_))
  go_region_law_o (refine step_copy_runI rfl _ _ 37 37 rfl _ _ (by simp [Act.eval, Act.put]) (by simp [Act.eval, Act.put]) (hcp2 _ _ _) ?_)
  go_wp2
  go_ret
  exact ⟨rfl, rfl⟩

theorem ins_apart (w : World) (b vb off m vc lb cb : Nat) (curb curv : Array Value) (eb ev : TypeId) (hne : vb ≠ b) (hb : w.heap[b]? = some (.cells curb eb (0, 0))) (hv : w.heap[vb]? = some (.cells curv ev (0, 0))) (h0 : 0 < curb.size) :
    (callFunc 187 #[.slice (some ⟨vb, 0, none⟩) m vc, .slice (some ⟨b, off, none⟩) lb cb]).run Tryz.prog w = .ok (.value (.bool false)) w := by
  rw [run_callFunc_extern Tryz.func187 (by kernel_rfl) (by kernel_rfl) (by kernel_rfl) (e := Extern.SlicesOverlaps.overlaps #[37, 37] #[4]) (by kernel_rfl),
    Lib.run_overlaps_apart w 37 4 93 Tryz.underlying37 3 (fun w => by
      obtain ⟨i, v, h1, h2, _⟩ := (hT 93 _ rfl).info
      simp [sizeOf, typeInfo, h1, h2]) ⟨vb, 0, none⟩ ⟨b, off, none⟩ m vc lb cb hne ev eb curv.size curb.size (by simp [World.shape?, hv]) (by simp [World.shape?, hb]) (by omega) (by simp [World.frozen?, hv]) (by simp [World.frozen?, hv])]
  rfl

theorem ins_walks : InsWalks Tryz.prog 157 37 3 3 where
  stop w base ad n cap m c r w1 hm hrun := ins_end w base ad n cap m c r w1 hm hrun
  room w w1 w2 b n cap i vb m vc x1 x2 lb cb curb curv eb ev hm hi hroom hc hne hb hv h0 hcp1 hcp2 := ins_room w w1 w2 b n cap i vb m vc x1 x2 hm hi hroom hc (fun lb cb => ins_apart w b vb _ m vc lb cb curb curv eb ev hne hb hv h0) hcp1 hcp2
  grow w w1 w2 w3 b g n cap G i vb m vc x2 x3 hm hi hnc hroom hG hc hG63 hbig hap hcp1 hcp2 := ins_grow w w1 w2 w3 b g n cap G i vb m vc x2 x3 hm hi hnc hroom hG hc hG63 hbig hap hcp1 hcp2

theorem ins_con {xs ys : List AV} {i : Nat} (hi : i ≤ xs.length) (hm : 0 < ys.length) (hb : (xs.length + ys.length) * 40 ≤ 140737488355328) :
    Con Tryz.prog 157 [.own 0, .i .i64 (i : Int), .own 1] [.arr 3 xs, .arr 3 ys] (.own 2) [none, none, some (.arr 3 (xs.take i ++ ys ++ xs.drop i))] := by
  refine con_insert hT (tS := 37) (tI := 3) (e := 93) rfl rfl rfl rfl rfl (fun args w => ?_) ins_walks hi hm hb
  have hb : Tryz.f157.body.isSome = true := by kernel_rfl
  have hn : (Tryz.f157.name == "runtime.NumGoroutine") = false := by kernel_rfl
  cases hbd : Tryz.f157.body with
  | none => rw [hbd] at hb; cases hb
  | some body => simp [callFunc, Tryz.func157, beq_eq_false_iff_ne.1 hn, hbd]

end Go.Proofs.YtbknlijpkabcnaaGreat.K
