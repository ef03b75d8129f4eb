/- How the arguments of the laws are read as models. No condition. -/
import Derived.Test.YtbknlijpkabcnaaGreatM
import Derived.Test.YtbknlijpkabcnaaGreatKT
import Derived.Test.YtbknlijpkabcnaaGreatK28
namespace Go.Proofs.YtbknlijpkabcnaaGreat.K
open Go

theorem rd3 : Op Tryz.prog 3 (fun x : Int => [.i .i64 x]) (fun x => (Lit.int .i64 x).wf = true) := Op.int hT (t := 3) rfl rfl
theorem rd9 : Op Tryz.prog 9 (fun x : List UInt8 => [.s x]) (fun x => List.length x ≤ maxLen) := Op.str hT (t := 9) rfl rfl
def MFile.ok (x : MFile) : Prop := ((Lit.int .i64 x.Name).wf = true) ∧ (List.length x.Safe ≤ maxLen) ∧ (List.length x.Late ≤ maxLen)
theorem rd92 : Op Tryz.prog 92 (fun x : MFile => x.av.cells) (fun x => MFile.ok x) := by
  intro H enc w spare held n cs x h φ own hn
  obtain ⟨hl, m, hf⟩ := Op.fields hT (t := 92) rfl rfl h
  obtain ⟨_, q0⟩ := hf 0 (0, 3) rfl
  rw [tab_cells hT (t := 3) rfl] at q0
  obtain ⟨v0, k0, r0⟩ := rd3 q0 φ own hn
  obtain ⟨_, q1⟩ := hf 1 (1, 9) rfl
  rw [tab_cells hT (t := 9) rfl] at q1
  obtain ⟨v1, k1, r1⟩ := rd9 q1 φ own hn
  obtain ⟨_, q2⟩ := hf 2 (2, 9) rfl
  rw [tab_cells hT (t := 9) rfl] at q2
  obtain ⟨v2, k2, r2⟩ := rd9 q2 φ own hn
  exact ⟨⟨v0, v1, v2⟩, ⟨k0, k1, k2⟩, (RL.cat (o := 0) (n := 1) r0 rfl (RL.cat (o := 1) (n := 1) r1 rfl (RL.cat (o := 2) (n := 1) r2 rfl (RL.nil (n := 3) hl))))⟩
theorem rd22 : Op Tryz.prog 22 (fun x : (List MFile) => [.sl 3 (List.map MFile.av x)]) (fun x => List.length x ≤ maxLen ∧ ∀ y ∈ x, MFile.ok y) := Op.slice hT (t := 22) (e := 92) rfl rfl rfl rd92 (g := MFile.av) (fun _ => rfl) (good_all fun _ => rfl)
def MDisk.ok (x : MDisk) : Prop := ((Lit.int .i64 x.Room).wf = true) ∧ (List.length x.Files ≤ maxLen ∧ ∀ y ∈ x.Files, MFile.ok y)
theorem rd24 : Op Tryz.prog 24 (fun x : MDisk => x.av.cells) (fun x => MDisk.ok x) := by
  intro H enc w spare held n cs x h φ own hn
  obtain ⟨hl, m, hf⟩ := Op.fields hT (t := 24) rfl rfl h
  obtain ⟨_, q0⟩ := hf 0 (0, 3) rfl
  rw [tab_cells hT (t := 3) rfl] at q0
  obtain ⟨v0, k0, r0⟩ := rd3 q0 φ own hn
  obtain ⟨_, q1⟩ := hf 1 (1, 22) rfl
  rw [tab_cells hT (t := 22) rfl] at q1
  obtain ⟨v1, k1, r1⟩ := rd22 q1 φ own hn
  exact ⟨⟨v0, v1⟩, ⟨k0, k1⟩, (RL.cat (o := 0) (n := 1) r0 rfl (RL.cat (o := 1) (n := 1) r1 rfl (RL.nil (n := 2) hl)))⟩

end Go.Proofs.YtbknlijpkabcnaaGreat.K
