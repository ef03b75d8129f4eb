/- How the arguments of the laws are read as models. No condition. -/
import Derived.Test.YtbknlijpkabcnaaGreatM
import Derived.Test.YtbknlijpkabcnaaGreatKT
import Derived.Test.YtbknlijpkabcnaaGreatK28
namespace Go.Proofs.YtbknlijpkabcnaaGreat.K
open Go

theorem rd3 : Op Tryz.prog 3 (fun x : Int => [.i .i64 x]) (fun x => (Lit.int .i64 x).wf = true) := Op.int hT (t := 3) rfl rfl
theorem rd9 : Op Tryz.prog 9 (fun x : List UInt8 => [.s x]) (fun x => List.length x ≤ maxLen) := Op.str hT (t := 9) rfl rfl
def MFile.ok (x : MFile) : Prop := ((Lit.int .i64 x.Name).wf = true) ∧ (List.length x.Safe ≤ maxLen) ∧ (List.length x.Late ≤ maxLen)
theorem rd92 : Op Tryz.prog 92 (fun x : MFile => x.av.cells) (fun x => MFile.ok x) := by
  intro H enc w spare held n cs x h φ own hn
  obtain ⟨hl, m, hf⟩ := Op.fields hT (t := 92) rfl rfl h
  obtain ⟨_, q0⟩ := hf 0 (0, 3) rfl
  rw [tab_cells hT (t := 3) rfl] at q0
  obtain ⟨v0, k0, r0⟩ := rd3 q0 φ own hn
  obtain ⟨_, q1⟩ := hf 1 (1, 9) rfl
  rw [tab_cells hT (t := 9) rfl] at q1
  obtain ⟨v1, k1, r1⟩ := rd9 q1 φ own hn
  obtain ⟨_, q2⟩ := hf 2 (2, 9) rfl
  rw [tab_cells hT (t := 9) rfl] at q2
  obtain ⟨v2, k2, r2⟩ := rd9 q2 φ own hn
  exact ⟨⟨v0, v1, v2⟩, ⟨k0, k1, k2⟩, (RL.cat (o := 0) (n := 1) r0 rfl (RL.cat (o := 1) (n := 1) r1 rfl (RL.cat (o := 2) (n := 1) r2 rfl (RL.nil (n := 3) hl))))⟩
theorem rd22 : Op Tryz.prog 22 (fun x : (List MFile) => [.sl 3 (List.map MFile.av x)]) (fun x => List.length x ≤ maxLen ∧ ∀ y ∈ x, MFile.ok y) := Op.slice hT (t := 22) (e := 92) rfl rfl rfl rd92 (g := MFile.av) (fun _ => rfl) (good_all fun _ => rfl)
def MDisk.ok (x : MDisk) : Prop := ((Lit.int .i64 x.Room).wf = true) ∧ (List.length x.Files ≤ maxLen ∧ ∀ y ∈ x.Files, MFile.ok y)
theorem rd24 : Op Tryz.prog 24 (fun x : MDisk => x.av.cells) (fun x => MDisk.ok x) := by
  intro H enc w spare held n cs x h φ own hn
  obtain ⟨hl, m, hf⟩ := Op.fields hT (t := 24) rfl rfl h
  obtain ⟨_, q0⟩ := hf 0 (0, 3) rfl
  rw [tab_cells hT (t := 3) rfl] at q0
  obtain ⟨v0, k0, r0⟩ := rd3 q0 φ own hn
  obtain ⟨_, q1⟩ := hf 1 (1, 22) rfl
  rw [tab_cells hT (t := 22) rfl] at q1
  obtain ⟨v1, k1, r1⟩ := rd22 q1 φ own hn
  exact ⟨⟨v0, v1⟩, ⟨k0, k1⟩, (RL.cat (o := 0) (n := 1) r0 rfl (RL.cat (o := 1) (n := 1) r1 rfl (RL.nil (n := 2) hl)))⟩
def MAccount.ok (x : MAccount) : Prop := ((Lit.int .i64 x.No).wf = true) ∧ ((Lit.int .i64 x.Kind).wf = true)
theorem rd173 : Op Tryz.prog 173 (fun x : MAccount => x.av.cells) (fun x => MAccount.ok x) := by
  intro H enc w spare held n cs x h φ own hn
  obtain ⟨hl, m, hf⟩ := Op.fields hT (t := 173) rfl rfl h
  obtain ⟨_, q0⟩ := hf 0 (0, 3) rfl
  rw [tab_cells hT (t := 3) rfl] at q0
  obtain ⟨v0, k0, r0⟩ := rd3 q0 φ own hn
  obtain ⟨_, q1⟩ := hf 1 (1, 3) rfl
  rw [tab_cells hT (t := 3) rfl] at q1
  obtain ⟨v1, k1, r1⟩ := rd3 q1 φ own hn
  exact ⟨⟨v0, v1⟩, ⟨k0, k1⟩, (RL.cat (o := 0) (n := 1) r0 rfl (RL.cat (o := 1) (n := 1) r1 rfl (RL.nil (n := 2) hl)))⟩
theorem rd46 : Op Tryz.prog 46 (fun x : (List MAccount) => [.sl 2 (List.map MAccount.av x)]) (fun x => List.length x ≤ maxLen ∧ ∀ y ∈ x, MAccount.ok y) := Op.slice hT (t := 46) (e := 173) rfl rfl rfl rd173 (g := MAccount.av) (fun _ => rfl) (good_all fun _ => rfl)
def MInstr.ok (x : MInstr) : Prop := ((Lit.int .i64 x.No).wf = true) ∧ ((Lit.int .i64 x.Kind).wf = true)
theorem rd175 : Op Tryz.prog 175 (fun x : MInstr => x.av.cells) (fun x => MInstr.ok x) := by
  intro H enc w spare held n cs x h φ own hn
  obtain ⟨hl, m, hf⟩ := Op.fields hT (t := 175) rfl rfl h
  obtain ⟨_, q0⟩ := hf 0 (0, 3) rfl
  rw [tab_cells hT (t := 3) rfl] at q0
  obtain ⟨v0, k0, r0⟩ := rd3 q0 φ own hn
  obtain ⟨_, q1⟩ := hf 1 (1, 3) rfl
  rw [tab_cells hT (t := 3) rfl] at q1
  obtain ⟨v1, k1, r1⟩ := rd3 q1 φ own hn
  exact ⟨⟨v0, v1⟩, ⟨k0, k1⟩, (RL.cat (o := 0) (n := 1) r0 rfl (RL.cat (o := 1) (n := 1) r1 rfl (RL.nil (n := 2) hl)))⟩
theorem rd47 : Op Tryz.prog 47 (fun x : (List MInstr) => [.sl 2 (List.map MInstr.av x)]) (fun x => List.length x ≤ maxLen ∧ ∀ y ∈ x, MInstr.ok y) := Op.slice hT (t := 47) (e := 175) rfl rfl rfl rd175 (g := MInstr.av) (fun _ => rfl) (good_all fun _ => rfl)
def MBal.ok (x : MBal) : Prop := ((Lit.int .i64 x.Account).wf = true) ∧ ((Lit.int .i64 x.Instr).wf = true) ∧ ((Lit.int .i64 x.Amount).wf = true)
theorem rd177 : Op Tryz.prog 177 (fun x : MBal => x.av.cells) (fun x => MBal.ok x) := by
  intro H enc w spare held n cs x h φ own hn
  obtain ⟨hl, m, hf⟩ := Op.fields hT (t := 177) rfl rfl h
  obtain ⟨_, q0⟩ := hf 0 (0, 3) rfl
  rw [tab_cells hT (t := 3) rfl] at q0
  obtain ⟨v0, k0, r0⟩ := rd3 q0 φ own hn
  obtain ⟨_, q1⟩ := hf 1 (1, 3) rfl
  rw [tab_cells hT (t := 3) rfl] at q1
  obtain ⟨v1, k1, r1⟩ := rd3 q1 φ own hn
  obtain ⟨_, q2⟩ := hf 2 (2, 3) rfl
  rw [tab_cells hT (t := 3) rfl] at q2
  obtain ⟨v2, k2, r2⟩ := rd3 q2 φ own hn
  exact ⟨⟨v0, v1, v2⟩, ⟨k0, k1, k2⟩, (RL.cat (o := 0) (n := 1) r0 rfl (RL.cat (o := 1) (n := 1) r1 rfl (RL.cat (o := 2) (n := 1) r2 rfl (RL.nil (n := 3) hl))))⟩
theorem rd48 : Op Tryz.prog 48 (fun x : (List MBal) => [.sl 3 (List.map MBal.av x)]) (fun x => List.length x ≤ maxLen ∧ ∀ y ∈ x, MBal.ok y) := Op.slice hT (t := 48) (e := 177) rfl rfl rfl rd177 (g := MBal.av) (fun _ => rfl) (good_all fun _ => rfl)
def MLot.ok (x : MLot) : Prop := ((Lit.int .i64 x.Account).wf = true) ∧ ((Lit.int .i64 x.Instr).wf = true) ∧ ((Lit.int .i64 x.No).wf = true) ∧ ((Lit.int .i64 x.Qty).wf = true) ∧ ((Lit.int .i64 x.Cost).wf = true)
theorem rd179 : Op Tryz.prog 179 (fun x : MLot => x.av.cells) (fun x => MLot.ok x) := by
  intro H enc w spare held n cs x h φ own hn
  obtain ⟨hl, m, hf⟩ := Op.fields hT (t := 179) rfl rfl h
  obtain ⟨_, q0⟩ := hf 0 (0, 3) rfl
  rw [tab_cells hT (t := 3) rfl] at q0
  obtain ⟨v0, k0, r0⟩ := rd3 q0 φ own hn
  obtain ⟨_, q1⟩ := hf 1 (1, 3) rfl
  rw [tab_cells hT (t := 3) rfl] at q1
  obtain ⟨v1, k1, r1⟩ := rd3 q1 φ own hn
  obtain ⟨_, q2⟩ := hf 2 (2, 3) rfl
  rw [tab_cells hT (t := 3) rfl] at q2
  obtain ⟨v2, k2, r2⟩ := rd3 q2 φ own hn
  obtain ⟨_, q3⟩ := hf 3 (3, 3) rfl
  rw [tab_cells hT (t := 3) rfl] at q3
  obtain ⟨v3, k3, r3⟩ := rd3 q3 φ own hn
  obtain ⟨_, q4⟩ := hf 4 (4, 3) rfl
  rw [tab_cells hT (t := 3) rfl] at q4
  obtain ⟨v4, k4, r4⟩ := rd3 q4 φ own hn
  exact ⟨⟨v0, v1, v2, v3, v4⟩, ⟨k0, k1, k2, k3, k4⟩, (RL.cat (o := 0) (n := 1) r0 rfl (RL.cat (o := 1) (n := 1) r1 rfl (RL.cat (o := 2) (n := 1) r2 rfl (RL.cat (o := 3) (n := 1) r3 rfl (RL.cat (o := 4) (n := 1) r4 rfl (RL.nil (n := 5) hl))))))⟩
theorem rd49 : Op Tryz.prog 49 (fun x : (List MLot) => [.sl 5 (List.map MLot.av x)]) (fun x => List.length x ≤ maxLen ∧ ∀ y ∈ x, MLot.ok y) := Op.slice hT (t := 49) (e := 179) rfl rfl rfl rd179 (g := MLot.av) (fun _ => rfl) (good_all fun _ => rfl)
def MTrade.ok (x : MTrade) : Prop := ((Lit.int .i64 x.No).wf = true) ∧ ((Lit.int .i64 x.Buyer).wf = true) ∧ ((Lit.int .i64 x.Seller).wf = true) ∧ ((Lit.int .i64 x.Paper).wf = true) ∧ ((Lit.int .i64 x.Qty).wf = true) ∧ ((Lit.int .i64 x.Cash).wf = true) ∧ ((Lit.int .i64 x.Price).wf = true) ∧ ((Lit.int .i64 x.State).wf = true)
theorem rd181 : Op Tryz.prog 181 (fun x : MTrade => x.av.cells) (fun x => MTrade.ok x) := by
  intro H enc w spare held n cs x h φ own hn
  obtain ⟨hl, m, hf⟩ := Op.fields hT (t := 181) rfl rfl h
  obtain ⟨_, q0⟩ := hf 0 (0, 3) rfl
  rw [tab_cells hT (t := 3) rfl] at q0
  obtain ⟨v0, k0, r0⟩ := rd3 q0 φ own hn
  obtain ⟨_, q1⟩ := hf 1 (1, 3) rfl
  rw [tab_cells hT (t := 3) rfl] at q1
  obtain ⟨v1, k1, r1⟩ := rd3 q1 φ own hn
  obtain ⟨_, q2⟩ := hf 2 (2, 3) rfl
  rw [tab_cells hT (t := 3) rfl] at q2
  obtain ⟨v2, k2, r2⟩ := rd3 q2 φ own hn
  obtain ⟨_, q3⟩ := hf 3 (3, 3) rfl
  rw [tab_cells hT (t := 3) rfl] at q3
  obtain ⟨v3, k3, r3⟩ := rd3 q3 φ own hn
  obtain ⟨_, q4⟩ := hf 4 (4, 3) rfl
  rw [tab_cells hT (t := 3) rfl] at q4
  obtain ⟨v4, k4, r4⟩ := rd3 q4 φ own hn
  obtain ⟨_, q5⟩ := hf 5 (5, 3) rfl
  rw [tab_cells hT (t := 3) rfl] at q5
  obtain ⟨v5, k5, r5⟩ := rd3 q5 φ own hn
  obtain ⟨_, q6⟩ := hf 6 (6, 3) rfl
  rw [tab_cells hT (t := 3) rfl] at q6
  obtain ⟨v6, k6, r6⟩ := rd3 q6 φ own hn
  obtain ⟨_, q7⟩ := hf 7 (7, 3) rfl
  rw [tab_cells hT (t := 3) rfl] at q7
  obtain ⟨v7, k7, r7⟩ := rd3 q7 φ own hn
  exact ⟨⟨v0, v1, v2, v3, v4, v5, v6, v7⟩, ⟨k0, k1, k2, k3, k4, k5, k6, k7⟩, (RL.cat (o := 0) (n := 1) r0 rfl (RL.cat (o := 1) (n := 1) r1 rfl (RL.cat (o := 2) (n := 1) r2 rfl (RL.cat (o := 3) (n := 1) r3 rfl (RL.cat (o := 4) (n := 1) r4 rfl (RL.cat (o := 5) (n := 1) r5 rfl (RL.cat (o := 6) (n := 1) r6 rfl (RL.cat (o := 7) (n := 1) r7 rfl (RL.nil (n := 8) hl)))))))))⟩
theorem rd50 : Op Tryz.prog 50 (fun x : (List MTrade) => [.sl 8 (List.map MTrade.av x)]) (fun x => List.length x ≤ maxLen ∧ ∀ y ∈ x, MTrade.ok y) := Op.slice hT (t := 50) (e := 181) rfl rfl rfl rd181 (g := MTrade.av) (fun _ => rfl) (good_all fun _ => rfl)
def MBooks.ok (x : MBooks) : Prop := (List.length x.Accounts ≤ maxLen ∧ ∀ y ∈ x.Accounts, MAccount.ok y) ∧ (List.length x.Instrs ≤ maxLen ∧ ∀ y ∈ x.Instrs, MInstr.ok y) ∧ (List.length x.Bals ≤ maxLen ∧ ∀ y ∈ x.Bals, MBal.ok y) ∧ (List.length x.Lots ≤ maxLen ∧ ∀ y ∈ x.Lots, MLot.ok y) ∧ (List.length x.Trades ≤ maxLen ∧ ∀ y ∈ x.Trades, MTrade.ok y) ∧ ((Lit.int .i64 x.Lot).wf = true)
theorem rd52 : Op Tryz.prog 52 (fun x : MBooks => x.av.cells) (fun x => MBooks.ok x) := by
  intro H enc w spare held n cs x h φ own hn
  obtain ⟨hl, m, hf⟩ := Op.fields hT (t := 52) rfl rfl h
  obtain ⟨_, q0⟩ := hf 0 (0, 46) rfl
  rw [tab_cells hT (t := 46) rfl] at q0
  obtain ⟨v0, k0, r0⟩ := rd46 q0 φ own hn
  obtain ⟨_, q1⟩ := hf 1 (1, 47) rfl
  rw [tab_cells hT (t := 47) rfl] at q1
  obtain ⟨v1, k1, r1⟩ := rd47 q1 φ own hn
  obtain ⟨_, q2⟩ := hf 2 (2, 48) rfl
  rw [tab_cells hT (t := 48) rfl] at q2
  obtain ⟨v2, k2, r2⟩ := rd48 q2 φ own hn
  obtain ⟨_, q3⟩ := hf 3 (3, 49) rfl
  rw [tab_cells hT (t := 49) rfl] at q3
  obtain ⟨v3, k3, r3⟩ := rd49 q3 φ own hn
  obtain ⟨_, q4⟩ := hf 4 (4, 50) rfl
  rw [tab_cells hT (t := 50) rfl] at q4
  obtain ⟨v4, k4, r4⟩ := rd50 q4 φ own hn
  obtain ⟨_, q5⟩ := hf 5 (5, 3) rfl
  rw [tab_cells hT (t := 3) rfl] at q5
  obtain ⟨v5, k5, r5⟩ := rd3 q5 φ own hn
  exact ⟨⟨v0, v1, v2, v3, v4, v5⟩, ⟨k0, k1, k2, k3, k4, k5⟩, (RL.cat (o := 0) (n := 1) r0 rfl (RL.cat (o := 1) (n := 1) r1 rfl (RL.cat (o := 2) (n := 1) r2 rfl (RL.cat (o := 3) (n := 1) r3 rfl (RL.cat (o := 4) (n := 1) r4 rfl (RL.cat (o := 5) (n := 1) r5 rfl (RL.nil (n := 6) hl)))))))⟩
def MSave.ok (x : MSave) : Prop := ((Lit.int .i64 x.From).wf = true) ∧ (MBooks.ok x.Books)
theorem rd54 : Op Tryz.prog 54 (fun x : MSave => x.av.cells) (fun x => MSave.ok x) := by
  intro H enc w spare held n cs x h φ own hn
  obtain ⟨hl, m, hf⟩ := Op.fields hT (t := 54) rfl rfl h
  obtain ⟨_, q0⟩ := hf 0 (0, 3) rfl
  rw [tab_cells hT (t := 3) rfl] at q0
  obtain ⟨v0, k0, r0⟩ := rd3 q0 φ own hn
  obtain ⟨_, q1⟩ := hf 1 (1, 52) rfl
  rw [tab_cells hT (t := 52) rfl] at q1
  obtain ⟨v1, k1, r1⟩ := rd52 q1 φ own hn
  exact ⟨⟨v0, v1⟩, ⟨k0, k1⟩, (RL.cat (o := 0) (n := 1) r0 rfl (RL.cat (o := 1) (n := 6) r1 rfl (RL.nil (n := 7) hl)))⟩

end Go.Proofs.YtbknlijpkabcnaaGreat.K
