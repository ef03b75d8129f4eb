/- Stops of a walk: calls. No condition. -/
import Derived.Test.YtbknlijpkabcnaaGreatK22
namespace Go.Proofs.YtbknlijpkabcnaaGreat.K
open Go

/-- A call that is handed no object and makes none. -/
theorem CK.flat {P : Program} {f b : Nat} {avs : List AV} {o : Ob} {K : Kont} {ret : AV} (h : Con P f (avs.map (down [] o)) [] ret [])
    (hf : ret.flatV = true) (hK : K (up [] b ret) [] (boxIds [] o ++ avs.flatMap (ids o))) : CK P f b avs o K :=
  ⟨false, [], [], ret, [], h, List.nodup_nil, rfl, Nat.le_refl _, Nat.zero_le _, .inr ⟨hf, fun ob h => by simp at h⟩, hK⟩

end Go.Proofs.YtbknlijpkabcnaaGreat.K
