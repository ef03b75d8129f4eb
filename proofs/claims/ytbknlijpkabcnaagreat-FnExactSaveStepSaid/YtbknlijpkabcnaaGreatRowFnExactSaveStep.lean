/- The law FnExactSaveStep holds for every input, and its arguments read as before. No condition. -/
import Derived.Test.YtbknlijpkabcnaaGreatRows
import Derived.Test.YtbknlijpkabcnaaGreatA1W4
import Derived.Test.YtbknlijpkabcnaaGreatPB
import Derived.Test.YtbknlijpkabcnaaGreatA1RD
import Derived.WalkKit
import Derived.ProofKit
import Derived.OpenShut
import Derived.ShutString
import Derived.ChangeOld
import Derived.Below
import Derived.SizedLaws
import Derived.Carry
namespace Go.Proofs.YtbknlijpkabcnaaGreat.fnExactSaveStep
open Go.ChangeShapes Go.WideShapes Go.ChangeAt Go.RowKit Go.Proofs.YtbknlijpkabcnaaGreat.K
theorem own : ownKnob Tryz.prog.godebug = none := by kernel_rfl
theorem laidOut : laidOutB Tryz.prog = true := by kernel_rfl
set_option maxRecDepth 100000 in
theorem lifted (os : Os) (started : os.Started) (H : Type) (enc : TypeId × Value → H) :
    ReturnsInHanded {} Tryz.checked os 4 .any (Rows.fnExactSaveStepSpec.pre6 enc Tryz.prog Tryz.f4 Rows.fnExactSaveStepRow.domain false) (Rows.fnExactSaveStepSpec.post enc Tryz.prog Tryz.f4 false true false false) := by
  refine returnsInHanded_of_change_sized (C := Tryz.checked) own started (by kernel_rfl) Tryz.func4
    (ChangeSpec.witness6 (enc := enc) (C := Tryz.checked) false ⟨#[], #[.agg #[.int .i64 0, .slice none 0 0], .agg #[.int .i64 0, .slice none 0 0, .slice none 0 0, .slice none 0 0, .slice none 0 0, .slice none 0 0, .int .i64 0], .int .i64 0], []⟩ 8 (by kernel_rfl) (by kernel_rfl) (by kernel_rfl) (by kernel_rfl)) ?_
  intro W base args ds gs before hval0 hW hcnd hsz0 _
  have hval : ∀ (j : Nat) t v, Tryz.f4.params[j]? = some t → args[j]? = some v → Value.okWide Tryz.prog W .any base t v := hval0
  have hW2 := hW
  obtain ⟨p, q, hA0, hV, rfl, hfz, hnd⟩ := hW
  have hA : DataW.TrodAll enc Tryz.prog W 0 (fun _ => true) true Tryz.f4.params.toList args.toList ds p := hA0
  rw [Tryz.params4] at hA hval
  obtain ⟨v0, vs0, d0, ds0, p0, q0, hargs, rfl, rfl, h0, r0⟩ := trodAll_cons hA
  obtain ⟨v1, vs1, d1, ds1, p1, q1, rfl, rfl, rfl, h1, r1⟩ := trodAll_cons r0
  obtain ⟨v2, vs2, d2, ds2, p2, q2, rfl, rfl, rfl, h2, r2⟩ := trodAll_cons r1
  obtain ⟨rfl, rfl, rfl⟩ := trodAll_nil r2
  obtain rfl : args = #[v0, v1, v2] := by cases args; simp_all
  obtain ⟨rfl, rfl⟩ := trodVars_none hV
  have g0 := h0
  have lt0 : ∀ x ∈ p0, x.block < W.heap.size := by obtain ⟨m, hm⟩ := g0; exact DataW.trod_lt m _ _ _ hm
  obtain ⟨n0, t0⟩ := h0
  obtain ⟨a0, k0, o0⟩ := rd24 t0 phi0 _ not_owns0
  obtain ⟨c0, rfl, _⟩ := okWide_struct Tryz.underlying24 (hval 0 24 v0 rfl rfl)
  have o0 := R.of_agg o0
  have g1 := h1
  have lt1 : ∀ x ∈ p1, x.block < W.heap.size := by obtain ⟨m, hm⟩ := g1; exact DataW.trod_lt m _ _ _ hm
  obtain ⟨n1, t1⟩ := h1
  obtain ⟨a1, k1, o1⟩ := rd54 t1 phi0 _ not_owns0
  obtain ⟨c1, rfl, _⟩ := okWide_struct Tryz.underlying54 (hval 1 54 v1 rfl rfl)
  have o1 := R.of_agg o1
  have g2 := h2
  have lt2 : ∀ x ∈ p2, x.block < W.heap.size := by obtain ⟨m, hm⟩ := g2; exact DataW.trod_lt m _ _ _ hm
  obtain ⟨n2, t2⟩ := h2
  obtain ⟨a2, k2, o2⟩ := rd3 t2 phi0 _ not_owns0
  obtain ⟨c2, rfl⟩ := okWide_int Tryz.underlying3 (hval 2 3 v2 rfl rfl)
  have o2 := R.of_one o2
  clear hA0 hval0 hsz0 hval
  have law := con_l_FnExactSaveStep (law_FnExactSaveStep a0 a1 a2 k0 k1 k2)
  refine (calls_law Tryz.func4 rfl rfl law rfl W [.agg c0, .agg c1, .int _ c2] rfl ?_).mono fun e W2 ⟨he, bel⟩ => ?_
  · intro j v c hv hc
    match j, hv, hc with
    | 0, hv, hc => cases hv; cases hc; exact o0
    | 1, hv, hc => cases hv; cases hc; exact o1
    | 2, hv, hc => cases hv; cases hc; exact o2
    | j + 3, hv, _ => simp at hv
  · subst he
    exact ⟨_, rfl, _, _, _, [], _, [], hW2, trodAll_mk1 (shut_bool Tryz.underlying4 _), (trodAll_cons_mk (Below.trod laidOut (by kernel_rfl) (of_decide_eq_true (by kernel_rfl)) g0 bel lt0) (trodAll_cons_mk (Below.trod laidOut (by kernel_rfl) (of_decide_eq_true (by kernel_rfl)) g1 bel lt1) (trodAll_cons_mk (Below.trod laidOut (by kernel_rfl) (of_decide_eq_true (by kernel_rfl)) g2 bel lt2) trodAll_mk0))), rfl, bel.frame _, fun h => by cases h⟩
theorem over : Rows.fnExactSaveStepRow.holds Tryz.pinned (OpenSpec.ofChange Rows.fnExactSaveStepSpec) :=
  OpenClaim.holds_of_wide 4 Tryz.f4 rfl rfl rfl rfl rfl rfl rfl ⟨rfl, rfl, rfl, rfl, rfl⟩ rfl rfl rfl rfl rfl (by kernel_rfl) Tryz.func4 (by kernel_rfl)
    (of_decide_eq_true (by kernel_rfl)) (by unfold Func.isWrapper; first | (rw [if_pos (by decide +kernel)]; kernel_rfl) | (rw [if_neg (by decide +kernel)]; exact ⟨rfl, rfl⟩))
    (fun os started H enc _ => lifted os started H enc)
theorem proved : Rows.FnExactSaveStepSaid := over
end Go.Proofs.YtbknlijpkabcnaaGreat.fnExactSaveStep
namespace Go.Proofs.YtbknlijpkabcnaaGreat
/-- The row, under a short name, for the claim. -/
theorem fnExactSaveStep_holds : Rows.FnExactSaveStepSaid := fnExactSaveStep.proved
#print axioms fnExactSaveStep_holds
end Go.Proofs.YtbknlijpkabcnaaGreat
