/- The law FnExactSaveLoad holds for every input, and its arguments read as before. No condition. -/
import Derived.Test.YtbknlijpkabcnaaGreatRows
import Derived.Test.YtbknlijpkabcnaaGreatA1W5
import Derived.Test.YtbknlijpkabcnaaGreatP15
import Derived.Test.YtbknlijpkabcnaaGreatA1RD
import Derived.WalkKit
import Derived.ProofKit
import Derived.OpenShut
import Derived.ShutString
import Derived.ChangeOld
import Derived.Below
import Derived.SizedLaws
import Derived.Carry
namespace Go.Proofs.YtbknlijpkabcnaaGreat.fnExactSaveLoad
open Go.ChangeShapes Go.WideShapes Go.ChangeAt Go.RowKit Go.Proofs.YtbknlijpkabcnaaGreat.K
theorem own : ownKnob Tryz.prog.godebug = none := by kernel_rfl
theorem laidOut : laidOutB Tryz.prog = true := by kernel_rfl
set_option maxRecDepth 100000 in
theorem lifted (os : Os) (started : os.Started) (H : Type) (enc : TypeId × Value → H) :
    ReturnsInHanded {} Tryz.checked os 3 .any (Rows.fnExactSaveLoadSpec.pre6 enc Tryz.prog Tryz.f3 Rows.fnExactSaveLoadRow.domain false) (Rows.fnExactSaveLoadSpec.post enc Tryz.prog Tryz.f3 false true false false) := by
  refine returnsInHanded_of_change_sized (C := Tryz.checked) own started (by kernel_rfl) Tryz.func3
    (ChangeSpec.witness6 (enc := enc) (C := Tryz.checked) false ⟨#[], #[.agg #[.int .i64 0, .slice none 0 0]], []⟩ 8 (by kernel_rfl) (by kernel_rfl) (by kernel_rfl) (by kernel_rfl)) ?_
  intro W base args ds gs before hval0 hW hcnd hsz0 _
  have hval : ∀ (j : Nat) t v, Tryz.f3.params[j]? = some t → args[j]? = some v → Value.okWide Tryz.prog W .any base t v := hval0
  have hW2 := hW
  obtain ⟨p, q, hA0, hV, rfl, hfz, hnd⟩ := hW
  have hA : DataW.TrodAll enc Tryz.prog W 0 (fun _ => true) true Tryz.f3.params.toList args.toList ds p := hA0
  rw [Tryz.params3] at hA hval
  obtain ⟨v0, vs0, d0, ds0, p0, q0, hargs, rfl, rfl, h0, r0⟩ := trodAll_cons hA
  obtain ⟨rfl, rfl, rfl⟩ := trodAll_nil r0
  obtain rfl : args = #[v0] := by cases args; simp_all
  obtain ⟨rfl, rfl⟩ := trodVars_none hV
  have g0 := h0
  have lt0 : ∀ x ∈ p0, x.block < W.heap.size := by obtain ⟨m, hm⟩ := g0; exact DataW.trod_lt m _ _ _ hm
  obtain ⟨n0, t0⟩ := h0
  obtain ⟨a0, k0, o0⟩ := rd24 t0 phi0 _ not_owns0
  obtain ⟨c0, rfl, _⟩ := okWide_struct Tryz.underlying24 (hval 0 24 v0 rfl rfl)
  have o0 := R.of_agg o0
  clear hA0 hval0 hsz0 hval
  have law := con_l_FnExactSaveLoad (law_FnExactSaveLoad a0 k0)
  refine (calls_law Tryz.func3 rfl rfl law rfl W [.agg c0] rfl ?_).mono fun e W2 ⟨he, bel⟩ => ?_
  · intro j v c hv hc
    match j, hv, hc with
    | 0, hv, hc => cases hv; cases hc; exact o0
    | j + 1, hv, _ => simp at hv
  · subst he
    exact ⟨_, rfl, _, _, _, [], _, [], hW2, trodAll_mk1 (shut_bool Tryz.underlying4 _), (trodAll_cons_mk (Below.trod laidOut (by kernel_rfl) (of_decide_eq_true (by kernel_rfl)) g0 bel lt0) trodAll_mk0), rfl, bel.frame _, fun h => by cases h⟩
theorem over : Rows.fnExactSaveLoadRow.holds Tryz.pinned (OpenSpec.ofChange Rows.fnExactSaveLoadSpec) :=
  OpenClaim.holds_of_wide 3 Tryz.f3 rfl rfl rfl rfl rfl rfl rfl ⟨rfl, rfl, rfl, rfl, rfl⟩ rfl rfl rfl rfl rfl (by kernel_rfl) Tryz.func3 (by kernel_rfl)
    (of_decide_eq_true (by kernel_rfl)) (by unfold Func.isWrapper; first | (rw [if_pos (by decide +kernel)]; kernel_rfl) | (rw [if_neg (by decide +kernel)]; exact ⟨rfl, rfl⟩))
    (fun os started H enc _ => lifted os started H enc)
theorem proved : Rows.FnExactSaveLoadSaid := over
end Go.Proofs.YtbknlijpkabcnaaGreat.fnExactSaveLoad
namespace Go.Proofs.YtbknlijpkabcnaaGreat
/-- The row, under a short name, for the claim. -/
theorem fnExactSaveLoad_holds : Rows.FnExactSaveLoadSaid := fnExactSaveLoad.proved
#print axioms fnExactSaveLoad_holds
end Go.Proofs.YtbknlijpkabcnaaGreat
