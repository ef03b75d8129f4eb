/- What the functions compute, as plain functions. No condition. -/
import Derived.Test.YtbknlijpkabcnaaGreatM
namespace Go.Proofs.YtbknlijpkabcnaaGreat.K
set_option linter.all false
open Go

def l_szFile (a0 : MFile) (a1 : Int) : Option Int :=
    (if w64 (a1 - (ln a0.Safe)) < (0 : Int) then some (-1 : Int) else (if w64 ((w64 (a1 - (ln a0.Safe))) - (ln a0.Late)) < (0 : Int) then some (-1 : Int) else some (w64 ((w64 (a1 - (ln a0.Safe))) - (ln a0.Late)))))
def l_szFileS_L1 (a0 : (List MFile)) (k1_0 : Int → Option Int) : Nat → (Int × Int) → Option Int
  | 0, _ => none
  | n + 1, (v9, v10) =>
  (if v10 < (ln (List.map MFile.av a0)) then (if 0 ≤ v10 then (Option.bind a0[(Int.toNat v10)]? fun x13 => (Option.bind (l_szFile x13 v9) fun y15 => (if y15 < (0 : Int) then some (-1 : Int) else l_szFileS_L1 a0 k1_0 n (y15, w64 (v10 + (1 : Int)))))) else none) else k1_0 v9)
def l_szFileS (a0 : (List MFile)) (a1 : Int) : Option Int :=
    (if w64 (a1 - (ln (List.map MFile.av a0))) < (0 : Int) then some (-1 : Int) else l_szFileS_L1 a0 (fun w18 => some w18) FUEL (w64 (a1 - (ln (List.map MFile.av a0))), (0 : Int)))
def l_szDisk (a0 : MDisk) (a1 : Int) : Option Int :=
    (Option.bind (l_szFileS a0.Files a1) fun y1 => (if y1 < (0 : Int) then some (-1 : Int) else some y1))
def l_toFile (a0 : MFile) : Option (Int × (List UInt8) × (List UInt8)) :=
    some (a0.Name, a0.Safe, a0.Late)
def l_toFileS_L1 (a0 : (List MFile)) (k1_0 : (List MFile) → Option (List MFile)) : Nat → ((List MFile) × Int) → Option (List MFile)
  | 0, _ => none
  | n + 1, (v11, v12) =>
  (if v12 < (ln (List.map MFile.av a0)) then (if 0 ≤ v12 then (Option.bind a0[(Int.toNat v12)]? fun x15 => (Option.bind (l_toFile x15) fun y17 => (if 0 ≤ v12 ∧ v12 < (ln (List.map MFile.av v11)) then (Option.bind v11[(Int.toNat v12)]? fun x20 => l_toFileS_L1 a0 k1_0 n ((List.set v11 (Int.toNat v12) (MFile.mk y17.1 y17.2.1 y17.2.2)), w64 (v12 + (1 : Int)))) else none))) else none) else k1_0 v11)
def l_toFileS (a0 : (List MFile)) : Option (List MFile) :=
    (if 0 ≤ (ln (List.map MFile.av a0)) ∧ (ln (List.map MFile.av a0)) ≤ (ln (List.map MFile.av a0)) ∧ (ln (List.map MFile.av a0)) * 40 ≤ 140737488355328 then l_toFileS_L1 a0 (fun w22 => some w22) FUEL ((List.replicate (Int.toNat (ln (List.map MFile.av a0))) (MFile.mk (0 : Int) ([] : List UInt8) ([] : List UInt8))), (0 : Int)) else none)
def l_toDisk (a0 : MDisk) : Option (Int × (List MFile)) :=
    (Option.bind (l_toFileS a0.Files) fun y1 => some (a0.Room, y1))
def s_l14Find_L1 (a0 : MDisk) (a1 : Int) (k1_0 : Unit → Option Int) : Nat → Int → Option Int
  | 0, _ => none
  | n + 1, v6 =>
  (if v6 < (ln (List.map MFile.av a0.Files)) then (if 0 ≤ v6 then (Option.bind a0.Files[(Int.toNat v6)]? fun x9 => (if x9.Name = a1 then some v6 else s_l14Find_L1 a0 a1 k1_0 n (w64 (v6 + (1 : Int))))) else none) else k1_0 ())
def s_l14Find (a0 : MDisk) (a1 : Int) : Option Int :=
    s_l14Find_L1 a0 a1 (fun _ => some (-1 : Int)) FUEL (0 : Int)
def s_l1In (a0 : Int) (a1 : Int) (a2 : Int) : Option Bool :=
    (if a1 ≤ a0 then some (decide (a0 ≤ a2)) else some false)
def s_l14Size_L1 (a0 : MDisk) (k1_0 : Int → Option Int) : Nat → (Int × Int) → Option Int
  | 0, _ => none
  | n + 1, (v5, v6) =>
  (if v6 < (ln (List.map MFile.av a0.Files)) then (if 0 ≤ v6 then (Option.bind a0.Files[(Int.toNat v6)]? fun x9 => s_l14Size_L1 a0 k1_0 n (w64 ((w64 (v5 + (ln x9.Safe))) + (ln x9.Late)), w64 (v6 + (1 : Int)))) else none) else k1_0 v5)
def s_l14Size (a0 : MDisk) : Option Int :=
    s_l14Size_L1 a0 (fun w11 => some w11) FUEL ((0 : Int), (0 : Int))
def s_l14Name (a0 : Int) : Option Bool :=
    (Option.bind (s_l1In a0 (0 : Int) (21 : Int)) fun y1 => some y1)
def s_DiskOk_L1 (a0 : MDisk) (k1_0 : Unit → Option Bool) : Nat → Int → Option Bool
  | 0, _ => none
  | n + 1, v20 =>
  (if v20 < (ln (List.map MFile.av a0.Files)) then (if 0 ≤ v20 then (Option.bind a0.Files[(Int.toNat v20)]? fun x23 => (Option.bind (s_l14Name x23.Name) fun y25 => (if ¬ (y25 = true) then some false else (if (0 : Int) < v20 then (if 0 ≤ w64 (v20 - (1 : Int)) then (Option.bind a0.Files[(Int.toNat (w64 (v20 - (1 : Int))))]? fun x30 => (if x23.Name ≤ x30.Name then some false else s_DiskOk_L1 a0 k1_0 n (w64 (v20 + (1 : Int))))) else none) else s_DiskOk_L1 a0 k1_0 n (w64 (v20 + (1 : Int))))))) else none) else k1_0 ())
def s_DiskOk (a0 : MDisk) : Option Bool :=
    (Option.bind (s_l1In a0.Room (0 : Int) (60000 : Int)) fun y1 => (if ¬ (y1 = true) then some false else (if (22 : Int) < (ln (List.map MFile.av a0.Files)) then some false else (Option.bind (s_l14Size a0) fun y5 => (if a0.Room < y5 then some false else s_DiskOk_L1 a0 (fun _ => some true) FUEL (0 : Int))))))
def s_DiskRead (a0 : MDisk) (a1 : Int) : Option ((List UInt8) × Bool) :=
    (Option.bind (s_l14Find a0 a1) fun y1 => (Option.bind (s_DiskOk a0) fun y3 => (if ¬ (y3 = true) then some (([] : List UInt8), false) else (if y1 < (0 : Int) then some (([] : List UInt8), false) else (if 0 ≤ y1 then (Option.bind a0.Files[(Int.toNat y1)]? fun x8 => (if List.length x8.Safe + List.length x8.Late ≤ maxLen then some ((x8.Safe ++ x8.Late), true) else none)) else none)))))
def s_GetNum_L1 (a0 : (List UInt8)) (a1 : Int) (k1_0 : Unit → Option (Int × Int × Bool)) : Nat → (Int × Int × Int) → Option (Int × Int × Bool)
  | 0, _ => none
  | n + 1, (v11, v12, v13) =>
  (if v13 < (9 : Int) then (if w64 (a1 + v13) < (ln (List.map u8 a0)) then (if 0 ≤ w64 (a1 + v13) then (Option.bind a0[(Int.toNat (w64 (a1 + v13)))]? fun x17 => (if w64 ((bn x17)) < (128 : Int) then (if w64 ((bn x17)) = (0 : Int) then (if (0 : Int) < v13 then some ((0 : Int), (0 : Int), false) else some ((w64 (v11 + (w64 ((Int.tmod (w64 ((bn x17))) (128 : Int)) * v12)))), (w64 ((w64 (a1 + v13)) + (1 : Int))), true)) else some ((w64 (v11 + (w64 ((Int.tmod (w64 ((bn x17))) (128 : Int)) * v12)))), (w64 ((w64 (a1 + v13)) + (1 : Int))), true)) else s_GetNum_L1 a0 a1 k1_0 n (w64 (v11 + (w64 ((Int.tmod (w64 ((bn x17))) (128 : Int)) * v12))), w64 (v12 * (128 : Int)), w64 (v13 + (1 : Int))))) else none) else k1_0 ()) else k1_0 ())
def s_GetNum (a0 : (List UInt8)) (a1 : Int) : Option (Int × Int × Bool) :=
    (if a1 < (0 : Int) then some ((0 : Int), (0 : Int), false) else (if (ln (List.map u8 a0)) ≤ a1 then some ((0 : Int), (0 : Int), false) else s_GetNum_L1 a0 a1 (fun _ => some ((0 : Int), (0 : Int), false)) FUEL ((0 : Int), (1 : Int), (0 : Int))))
def s_Check_L1 (a0 : (List UInt8)) (k1_0 : Int × Int → Option Int) : Nat → (Int × Int × Int) → Option Int
  | 0, _ => none
  | n + 1, (v5, v6, v7) =>
  (if v7 < (ln (List.map u8 a0)) then (if 0 ≤ v7 then (Option.bind a0[(Int.toNat v7)]? fun x10 => s_Check_L1 a0 k1_0 n (Int.tmod (w64 ((w64 (v5 + (w64 ((bn x10))))) + (1 : Int))) (65535 : Int), Int.tmod (w64 (v6 + (Int.tmod (w64 ((w64 (v5 + (w64 ((bn x10))))) + (1 : Int))) (65535 : Int)))) (65535 : Int), w64 (v7 + (1 : Int)))) else none) else k1_0 (v5, v6))
def s_Check (a0 : (List UInt8)) : Option Int :=
    s_Check_L1 a0 (fun (w12, w13) => some (w64 ((w64 ((65536 : Int) * w13)) + w12))) FUEL ((0 : Int), (0 : Int), (0 : Int))
def s_Unseal (a0 : (List UInt8)) (a1 : Int) : Option ((List UInt8) × Int × Int) :=
    (Option.bind (s_GetNum a0 a1) fun y1 => (if ¬ (y1.2.2 = true) then some (([] : List UInt8), (0 : Int), (1 : Int)) else (if (9000 : Int) < y1.1 then some (([] : List UInt8), (0 : Int), (1 : Int)) else (if w64 ((ln (List.map u8 a0)) - y1.2.1) < w64 (y1.1 + (4 : Int)) then some (([] : List UInt8), (0 : Int), (2 : Int)) else (if 0 ≤ y1.2.1 ∧ y1.2.1 ≤ w64 (y1.2.1 + y1.1) ∧ w64 (y1.2.1 + y1.1) ≤ (ln (List.map u8 a0)) then (if (List.length (List.map u8 ([] : List UInt8)) + List.length (List.map u8 (sub a0 (Int.toNat y1.2.1) (Int.toNat (w64 (y1.2.1 + y1.1))) false))) * 1 ≤ 140737488355328 then (if 0 ≤ w64 (y1.2.1 + y1.1) ∧ w64 (y1.2.1 + y1.1) ≤ w64 ((w64 (y1.2.1 + y1.1)) + (4 : Int)) ∧ w64 ((w64 (y1.2.1 + y1.1)) + (4 : Int)) ≤ (ln (List.map u8 a0)) then (Option.bind (s_Check (([] : List UInt8) ++ (sub a0 (Int.toNat y1.2.1) (Int.toNat (w64 (y1.2.1 + y1.1))) false))) fun y9 => (if 0 ≤ (0 : Int) then (Option.bind (sub a0 (Int.toNat (w64 (y1.2.1 + y1.1))) (Int.toNat (w64 ((w64 (y1.2.1 + y1.1)) + (4 : Int)))) false)[(Int.toNat (0 : Int))]? fun x12 => (if 0 ≤ (1 : Int) then (Option.bind (sub a0 (Int.toNat (w64 (y1.2.1 + y1.1))) (Int.toNat (w64 ((w64 (y1.2.1 + y1.1)) + (4 : Int)))) false)[(Int.toNat (1 : Int))]? fun x15 => (if 0 ≤ (2 : Int) then (Option.bind (sub a0 (Int.toNat (w64 (y1.2.1 + y1.1))) (Int.toNat (w64 ((w64 (y1.2.1 + y1.1)) + (4 : Int)))) false)[(Int.toNat (2 : Int))]? fun x18 => (if 0 ≤ (3 : Int) then (Option.bind (sub a0 (Int.toNat (w64 (y1.2.1 + y1.1))) (Int.toNat (w64 ((w64 (y1.2.1 + y1.1)) + (4 : Int)))) false)[(Int.toNat (3 : Int))]? fun x21 => (if y9 ≠ w64 ((w64 ((w64 ((w64 ((bn x12))) + (w64 ((w64 ((bn x15))) * 2 ^ (min (Int.toNat (8 : Int)) (IntKind.bits .i64)))))) + (w64 ((w64 ((bn x18))) * 2 ^ (min (Int.toNat (16 : Int)) (IntKind.bits .i64)))))) + (w64 ((w64 ((bn x21))) * 2 ^ (min (Int.toNat (24 : Int)) (IntKind.bits .i64))))) then some (([] : List UInt8), (0 : Int), (3 : Int)) else some ((([] : List UInt8) ++ (sub a0 (Int.toNat y1.2.1) (Int.toNat (w64 (y1.2.1 + y1.1))) false)), (w64 ((w64 (y1.2.1 + y1.1)) + (4 : Int))), (0 : Int)))) else none)) else none)) else none)) else none)) else none) else none) else none)))))
def s_l15Seg (a0 : Int) : Option Bool :=
    (Option.bind (s_l1In a0 (0 : Int) (19 : Int)) fun y1 => some y1)
def s_GetNums_L1 (a0 : (List UInt8)) (a2 : Int) (k1_0 : Int × (List Int) → Option ((List Int) × Int × Bool)) : Nat → (Int × (List Int) × Int) → Option ((List Int) × Int × Bool)
  | 0, _ => none
  | n + 1, (v12, v13, v14) =>
  (if v14 < a2 then (Option.bind (s_GetNum a0 v12) fun y16 => (if ¬ (y16.2.2 = true) then some (([] : List Int), (0 : Int), false) else (if (List.length (List.map iv v13) + List.length (List.map iv [y16.1])) * 8 ≤ 140737488355328 then s_GetNums_L1 a0 a2 k1_0 n (y16.2.1, (v13 ++ [y16.1]), w64 (v14 + (1 : Int))) else none))) else k1_0 (v12, v13))
def s_GetNums (a0 : (List UInt8)) (a1 : Int) (a2 : Int) : Option ((List Int) × Int × Bool) :=
    (Option.bind (s_l1In a2 (0 : Int) (2000 : Int)) fun y1 => (if ¬ (y1 = true) then some (([] : List Int), (0 : Int), false) else (Option.bind (s_l1In a1 (0 : Int) (ln (List.map u8 a0))) fun y4 => (if ¬ (y4 = true) then some (([] : List Int), (0 : Int), false) else s_GetNums_L1 a0 a2 (fun (w20, w21) => some (w21, w20, true)) FUEL (a1, ([] : List Int), (0 : Int))))))
def s_l13Rows_L1 (a0 : (List UInt8)) (a2 : Int) (y1 : (Int × Int × Bool)) (k1_0 : Int × (List (List Int)) → Option ((List (List Int)) × Int × Bool)) : Nat → (Int × (List (List Int)) × Int) → Option ((List (List Int)) × Int × Bool)
  | 0, _ => none
  | n + 1, (v10, v11, v12) =>
  (if v12 < y1.1 then (Option.bind (s_GetNums a0 v10 a2) fun y14 => (if ¬ (y14.2.2 = true) then some (v11, (0 : Int), false) else (if (List.length (List.map (sv 1 iv) v11) + List.length (List.map (sv 1 iv) [y14.1])) * 24 ≤ 140737488355328 then s_l13Rows_L1 a0 a2 y1 k1_0 n (y14.2.1, (v11 ++ [y14.1]), w64 (v12 + (1 : Int))) else none))) else k1_0 (v10, v11))
def s_l13Rows (a0 : (List UInt8)) (a1 : Int) (a2 : Int) (a3 : Int) : Option ((List (List Int)) × Int × Bool) :=
    (Option.bind (s_GetNum a0 a1) fun y1 => (if ¬ (y1.2.2 = true) then some (([] : List (List Int)), (0 : Int), false) else (if a3 < y1.1 then some (([] : List (List Int)), (0 : Int), false) else s_l13Rows_L1 a0 a2 y1 (fun (w18, w19) => some (w19, w18, true)) FUEL (y1.2.1, ([] : List (List Int)), (0 : Int)))))
def s_l3No (a0 : Int) : Option Bool :=
    (Option.bind (s_l1In a0 (1 : Int) (1000 : Int)) fun y1 => some y1)
def s_AccountsOk_L1 (a0 : (List MAccount)) (k1_0 : Unit → Option Bool) : Nat → Int → Option Bool
  | 0, _ => none
  | n + 1, v17 =>
  (if v17 < (ln (List.map MAccount.av a0)) then (if 0 ≤ v17 then (Option.bind a0[(Int.toNat v17)]? fun x20 => (Option.bind (s_l3No x20.No) fun y22 => (if ¬ (y22 = true) then some false else (Option.bind (s_l1In x20.Kind (1 : Int) (4 : Int)) fun y25 => (if ¬ (y25 = true) then some false else (if (0 : Int) < v17 then (if 0 ≤ w64 (v17 - (1 : Int)) then (Option.bind a0[(Int.toNat (w64 (v17 - (1 : Int))))]? fun x30 => (if x20.No ≤ x30.No then some false else s_AccountsOk_L1 a0 k1_0 n (w64 (v17 + (1 : Int))))) else none) else s_AccountsOk_L1 a0 k1_0 n (w64 (v17 + (1 : Int))))))))) else none) else k1_0 ())
def s_AccountsOk (a0 : (List MAccount)) : Option Bool :=
    (if (20 : Int) < (ln (List.map MAccount.av a0)) then some false else s_AccountsOk_L1 a0 (fun _ => some true) FUEL (0 : Int))
def s_InstrsOk_L1 (a0 : (List MInstr)) (k1_0 : Unit → Option Bool) : Nat → Int → Option Bool
  | 0, _ => none
  | n + 1, v17 =>
  (if v17 < (ln (List.map MInstr.av a0)) then (if 0 ≤ v17 then (Option.bind a0[(Int.toNat v17)]? fun x20 => (Option.bind (s_l3No x20.No) fun y22 => (if ¬ (y22 = true) then some false else (Option.bind (s_l1In x20.Kind (1 : Int) (2 : Int)) fun y25 => (if ¬ (y25 = true) then some false else (if (0 : Int) < v17 then (if 0 ≤ w64 (v17 - (1 : Int)) then (Option.bind a0[(Int.toNat (w64 (v17 - (1 : Int))))]? fun x30 => (if x20.No ≤ x30.No then some false else s_InstrsOk_L1 a0 k1_0 n (w64 (v17 + (1 : Int))))) else none) else s_InstrsOk_L1 a0 k1_0 n (w64 (v17 + (1 : Int))))))))) else none) else k1_0 ())
def s_InstrsOk (a0 : (List MInstr)) : Option Bool :=
    (if (8 : Int) < (ln (List.map MInstr.av a0)) then some false else s_InstrsOk_L1 a0 (fun _ => some true) FUEL (0 : Int))
def s_AmountOk (a0 : Int) : Option Bool :=
    (Option.bind (s_l1In a0 (-1000000000000000 : Int) (1000000000000000 : Int)) fun y1 => some y1)
def s_l4Before (a0 : Int) (a1 : Int) (a2 : Int) (a3 : Int) : Option Bool :=
    (if a0 < a2 then some true else (if a0 = a2 then some (decide (a1 < a3)) else some false))
def s_BalsOk_L1 (a0 : (List MBal)) (k1_0 : Unit → Option Bool) : Nat → Int → Option Bool
  | 0, _ => none
  | n + 1, v23 =>
  (if v23 < (ln (List.map MBal.av a0)) then (if 0 ≤ v23 then (Option.bind a0[(Int.toNat v23)]? fun x26 => (Option.bind (s_l3No x26.Account) fun y28 => (if ¬ (y28 = true) then some false else (Option.bind (s_l3No x26.Instr) fun y31 => (if ¬ (y31 = true) then some false else (Option.bind (s_AmountOk x26.Amount) fun y34 => (if ¬ (y34 = true) then some false else (if x26.Amount = (0 : Int) then some false else (if (0 : Int) < v23 then (if 0 ≤ w64 (v23 - (1 : Int)) then (Option.bind a0[(Int.toNat (w64 (v23 - (1 : Int))))]? fun x40 => (Option.bind (s_l4Before x40.Account x40.Instr x26.Account x26.Instr) fun y42 => (if ¬ (y42 = true) then some false else s_BalsOk_L1 a0 k1_0 n (w64 (v23 + (1 : Int)))))) else none) else s_BalsOk_L1 a0 k1_0 n (w64 (v23 + (1 : Int)))))))))))) else none) else k1_0 ())
def s_BalsOk (a0 : (List MBal)) : Option Bool :=
    (if (160 : Int) < (ln (List.map MBal.av a0)) then some false else s_BalsOk_L1 a0 (fun _ => some true) FUEL (0 : Int))
def s_l1Some (a0 : Int) (a1 : Int) : Option Bool :=
    (Option.bind (s_l1In a0 a1 (1000000000000000 : Int)) fun y1 => some y1)
def s_l5Right (a0 : MLot) : Option Bool :=
    (Option.bind (s_l3No a0.Account) fun y1 => (if y1 = true then (Option.bind (s_l3No a0.Instr) fun y4 => (if y4 = true then (Option.bind (s_l1In a0.No (1 : Int) (1000000000 : Int)) fun y7 => (if y7 = true then (Option.bind (s_l1Some a0.Qty (1 : Int)) fun y10 => (if y10 = true then (Option.bind (s_l1Some a0.Cost (0 : Int)) fun y13 => some y13) else some false)) else some false)) else some false)) else some false))
def s_l5Before (a0 : MLot) (a1 : MLot) : Option Bool :=
    (Option.bind (s_l4Before a0.Account a0.Instr a1.Account a1.Instr) fun y1 => (if y1 = true then some true else (if a0.Account = a1.Account then (if a0.Instr = a1.Instr then some (decide (a0.No < a1.No)) else some false) else some false)))
def s_LotsOk_L1 (a0 : (List MLot)) (k1_0 : Unit → Option Bool) : Nat → (Int × Int × Int) → Option Bool
  | 0, _ => none
  | n + 1, (v73, v74, v75) =>
  (if v75 < (ln (List.map MLot.av a0)) then (if 0 ≤ v75 then (Option.bind a0[(Int.toNat v75)]? fun x78 => (Option.bind (s_l5Right x78) fun y80 => (if ¬ (y80 = true) then some false else (if (0 : Int) < v75 then (if 0 ≤ w64 (v75 - (1 : Int)) then (Option.bind a0[(Int.toNat (w64 (v75 - (1 : Int))))]? fun x85 => (Option.bind (s_l5Before x85 x78) fun y87 => (if ¬ (y87 = true) then some false else (if v75 = (0 : Int) then (Option.bind (s_AmountOk (w64 ((0 : Int) + x78.Qty))) fun y91 => (if ¬ (y91 = true) then some false else (Option.bind (s_AmountOk (w64 ((0 : Int) + x78.Cost))) fun y94 => (if ¬ (y94 = true) then some false else s_LotsOk_L1 a0 k1_0 n (w64 ((0 : Int) + x78.Qty), w64 ((0 : Int) + x78.Cost), w64 (v75 + (1 : Int))))))) else (if x78.Account ≠ x85.Account then (Option.bind (s_AmountOk (w64 ((0 : Int) + x78.Qty))) fun y98 => (if ¬ (y98 = true) then some false else (Option.bind (s_AmountOk (w64 ((0 : Int) + x78.Cost))) fun y101 => (if ¬ (y101 = true) then some false else s_LotsOk_L1 a0 k1_0 n (w64 ((0 : Int) + x78.Qty), w64 ((0 : Int) + x78.Cost), w64 (v75 + (1 : Int))))))) else (if x78.Instr ≠ x85.Instr then (Option.bind (s_AmountOk (w64 ((0 : Int) + x78.Qty))) fun y105 => (if ¬ (y105 = true) then some false else (Option.bind (s_AmountOk (w64 ((0 : Int) + x78.Cost))) fun y108 => (if ¬ (y108 = true) then some false else s_LotsOk_L1 a0 k1_0 n (w64 ((0 : Int) + x78.Qty), w64 ((0 : Int) + x78.Cost), w64 (v75 + (1 : Int))))))) else (Option.bind (s_AmountOk (w64 (v73 + x78.Qty))) fun y111 => (if ¬ (y111 = true) then some false else (Option.bind (s_AmountOk (w64 (v74 + x78.Cost))) fun y114 => (if ¬ (y114 = true) then some false else s_LotsOk_L1 a0 k1_0 n (w64 (v73 + x78.Qty), w64 (v74 + x78.Cost), w64 (v75 + (1 : Int))))))))))))) else none) else (if v75 = (0 : Int) then (Option.bind (s_AmountOk (w64 ((0 : Int) + x78.Qty))) fun y118 => (if ¬ (y118 = true) then some false else (Option.bind (s_AmountOk (w64 ((0 : Int) + x78.Cost))) fun y121 => (if ¬ (y121 = true) then some false else s_LotsOk_L1 a0 k1_0 n (w64 ((0 : Int) + x78.Qty), w64 ((0 : Int) + x78.Cost), w64 (v75 + (1 : Int))))))) else (if 0 ≤ w64 (v75 - (1 : Int)) then (Option.bind a0[(Int.toNat (w64 (v75 - (1 : Int))))]? fun x125 => (if x78.Account ≠ x125.Account then (Option.bind (s_AmountOk (w64 ((0 : Int) + x78.Qty))) fun y128 => (if ¬ (y128 = true) then some false else (Option.bind (s_AmountOk (w64 ((0 : Int) + x78.Cost))) fun y131 => (if ¬ (y131 = true) then some false else s_LotsOk_L1 a0 k1_0 n (w64 ((0 : Int) + x78.Qty), w64 ((0 : Int) + x78.Cost), w64 (v75 + (1 : Int))))))) else (if x78.Instr ≠ x125.Instr then (Option.bind (s_AmountOk (w64 ((0 : Int) + x78.Qty))) fun y135 => (if ¬ (y135 = true) then some false else (Option.bind (s_AmountOk (w64 ((0 : Int) + x78.Cost))) fun y138 => (if ¬ (y138 = true) then some false else s_LotsOk_L1 a0 k1_0 n (w64 ((0 : Int) + x78.Qty), w64 ((0 : Int) + x78.Cost), w64 (v75 + (1 : Int))))))) else (Option.bind (s_AmountOk (w64 (v73 + x78.Qty))) fun y141 => (if ¬ (y141 = true) then some false else (Option.bind (s_AmountOk (w64 (v74 + x78.Cost))) fun y144 => (if ¬ (y144 = true) then some false else s_LotsOk_L1 a0 k1_0 n (w64 (v73 + x78.Qty), w64 (v74 + x78.Cost), w64 (v75 + (1 : Int)))))))))) else none)))))) else none) else k1_0 ())
def s_LotsOk (a0 : (List MLot)) : Option Bool :=
    (if (120 : Int) < (ln (List.map MLot.av a0)) then some false else s_LotsOk_L1 a0 (fun _ => some true) FUEL ((0 : Int), (0 : Int), (0 : Int)))
def s_TradesOk_L1 (a0 : (List MTrade)) (k1_0 : Unit → Option Bool) : Nat → Int → Option Bool
  | 0, _ => none
  | n + 1, v36 =>
  (if v36 < (ln (List.map MTrade.av a0)) then (if 0 ≤ v36 then (Option.bind a0[(Int.toNat v36)]? fun x39 => (Option.bind (s_l3No x39.No) fun y41 => (if ¬ (y41 = true) then some false else (Option.bind (s_l3No x39.Buyer) fun y44 => (if ¬ (y44 = true) then some false else (Option.bind (s_l3No x39.Seller) fun y47 => (if ¬ (y47 = true) then some false else (Option.bind (s_l3No x39.Paper) fun y50 => (if ¬ (y50 = true) then some false else (Option.bind (s_l3No x39.Cash) fun y53 => (if ¬ (y53 = true) then some false else (if x39.Buyer = x39.Seller then some false else (Option.bind (s_l1Some x39.Qty (1 : Int)) fun y57 => (if ¬ (y57 = true) then some false else (Option.bind (s_l1Some x39.Price (0 : Int)) fun y60 => (if ¬ (y60 = true) then some false else (Option.bind (s_l1In x39.State (1 : Int) (3 : Int)) fun y63 => (if ¬ (y63 = true) then some false else (if (0 : Int) < v36 then (if 0 ≤ w64 (v36 - (1 : Int)) then (Option.bind a0[(Int.toNat (w64 (v36 - (1 : Int))))]? fun x68 => (if x39.No ≤ x68.No then some false else s_TradesOk_L1 a0 k1_0 n (w64 (v36 + (1 : Int))))) else none) else s_TradesOk_L1 a0 k1_0 n (w64 (v36 + (1 : Int)))))))))))))))))))))) else none) else k1_0 ())
def s_TradesOk (a0 : (List MTrade)) : Option Bool :=
    (if (30 : Int) < (ln (List.map MTrade.av a0)) then some false else s_TradesOk_L1 a0 (fun _ => some true) FUEL (0 : Int))
def s_AccountKind_L1 (a0 : (List MAccount)) (a1 : Int) (k1_0 : Unit → Option Int) : Nat → Int → Option Int
  | 0, _ => none
  | n + 1, v9 =>
  (if v9 < (ln (List.map MAccount.av a0)) then (Option.bind (s_AccountsOk a0) fun y11 => (if y11 = true then (if 0 ≤ v9 then (Option.bind a0[(Int.toNat v9)]? fun x15 => (if x15.No = a1 then some x15.Kind else s_AccountKind_L1 a0 a1 k1_0 n (w64 (v9 + (1 : Int))))) else none) else k1_0 ())) else k1_0 ())
def s_AccountKind (a0 : (List MAccount)) (a1 : Int) : Option Int :=
    s_AccountKind_L1 a0 a1 (fun _ => some (0 : Int)) FUEL (0 : Int)
def s_InstrKind_L1 (a0 : (List MInstr)) (a1 : Int) (k1_0 : Unit → Option Int) : Nat → Int → Option Int
  | 0, _ => none
  | n + 1, v9 =>
  (if v9 < (ln (List.map MInstr.av a0)) then (Option.bind (s_InstrsOk a0) fun y11 => (if y11 = true then (if 0 ≤ v9 then (Option.bind a0[(Int.toNat v9)]? fun x15 => (if x15.No = a1 then some x15.Kind else s_InstrKind_L1 a0 a1 k1_0 n (w64 (v9 + (1 : Int))))) else none) else k1_0 ())) else k1_0 ())
def s_InstrKind (a0 : (List MInstr)) (a1 : Int) : Option Int :=
    s_InstrKind_L1 a0 a1 (fun _ => some (0 : Int)) FUEL (0 : Int)
def s_l1Told (a0 : Int) (a1 : Bool) : Option (Int × Bool) :=
    (if ¬ (a1 = true) then some ((0 : Int), false) else (Option.bind (s_AmountOk a0) fun y2 => (if ¬ (y2 = true) then some ((0 : Int), false) else some (a0, true))))
def s_BalsSum_L1 (a0 : (List MBal)) (a1 : Int) (k1_0 : Int → Option (Int × Bool)) : Nat → (Int × Int) → Option (Int × Bool)
  | 0, _ => none
  | n + 1, (v9, v10) =>
  (if v10 < (ln (List.map MBal.av a0)) then (Option.bind (s_BalsOk a0) fun y12 => (if y12 = true then (if 0 ≤ v10 then (Option.bind a0[(Int.toNat v10)]? fun x16 => (if x16.Instr = a1 then s_BalsSum_L1 a0 a1 k1_0 n (w64 (v9 + x16.Amount), w64 (v10 + (1 : Int))) else s_BalsSum_L1 a0 a1 k1_0 n (v9, w64 (v10 + (1 : Int))))) else none) else k1_0 v9)) else k1_0 v9)
def s_BalsSum (a0 : (List MBal)) (a1 : Int) : Option (Int × Bool) :=
    s_BalsSum_L1 a0 a1 (fun w19 => (Option.bind (s_BalsOk a0) fun y20 => (Option.bind (s_l1Told w19 y20) fun y22 => some (y22.1, y22.2)))) FUEL ((0 : Int), (0 : Int))
def s_l6Bals_L1 (a0 : MBooks) (k1_0 : Unit → Option Bool) : Nat → Int → Option Bool
  | 0, _ => none
  | n + 1, v21 =>
  (if v21 < (ln (List.map MBal.av a0.Bals)) then (if 0 ≤ v21 then (Option.bind a0.Bals[(Int.toNat v21)]? fun x24 => (Option.bind (s_AccountKind a0.Accounts x24.Account) fun y26 => (if y26 = (0 : Int) then some false else (Option.bind (s_InstrKind a0.Instrs x24.Instr) fun y29 => (if y29 = (0 : Int) then some false else (if y26 = (1 : Int) then (if x24.Amount < (0 : Int) then some false else (Option.bind (s_BalsSum a0.Bals x24.Instr) fun y34 => (if ¬ (y34.2 = true) then some false else (if y34.1 ≠ (0 : Int) then some false else s_l6Bals_L1 a0 k1_0 n (w64 (v21 + (1 : Int))))))) else (Option.bind (s_BalsSum a0.Bals x24.Instr) fun y38 => (if ¬ (y38.2 = true) then some false else (if y38.1 ≠ (0 : Int) then some false else s_l6Bals_L1 a0 k1_0 n (w64 (v21 + (1 : Int)))))))))))) else none) else k1_0 ())
def s_l6Bals (a0 : MBooks) : Option Bool :=
    s_l6Bals_L1 a0 (fun _ => some true) FUEL (0 : Int)
def s_l5Split_L1 (a0 : (List MLot)) (a1 : Int) (a2 : Int) (k1_0 : (List MLot) × (List MLot) → Option ((List MLot) × (List MLot))) : Nat → ((List MLot) × (List MLot) × Int) → Option ((List MLot) × (List MLot))
  | 0, _ => none
  | n + 1, (v10, v11, v12) =>
  (if v12 < (ln (List.map MLot.av a0)) then (if 0 ≤ v12 then (Option.bind a0[(Int.toNat v12)]? fun x15 => (if x15.Account = a1 then (if x15.Instr = a2 then (if (List.length (List.map MLot.av v10) + List.length (List.map MLot.av [x15])) * 40 ≤ 140737488355328 then s_l5Split_L1 a0 a1 a2 k1_0 n ((v10 ++ [x15]), v11, w64 (v12 + (1 : Int))) else none) else (if (List.length (List.map MLot.av v11) + List.length (List.map MLot.av [x15])) * 40 ≤ 140737488355328 then s_l5Split_L1 a0 a1 a2 k1_0 n (v10, (v11 ++ [x15]), w64 (v12 + (1 : Int))) else none)) else (if (List.length (List.map MLot.av v11) + List.length (List.map MLot.av [x15])) * 40 ≤ 140737488355328 then s_l5Split_L1 a0 a1 a2 k1_0 n (v10, (v11 ++ [x15]), w64 (v12 + (1 : Int))) else none))) else none) else k1_0 (v10, v11))
def s_l5Split (a0 : (List MLot)) (a1 : Int) (a2 : Int) : Option ((List MLot) × (List MLot)) :=
    s_l5Split_L1 a0 a1 a2 (fun (w22, w23) => some (w22, w23)) FUEL (([] : List MLot), ([] : List MLot), (0 : Int))
def s_l5Qty_L1 (a0 : (List MLot)) (k1_0 : Int → Option Int) : Nat → (Int × Int) → Option Int
  | 0, _ => none
  | n + 1, (v5, v6) =>
  (if v6 < (ln (List.map MLot.av a0)) then (if 0 ≤ v6 then (Option.bind a0[(Int.toNat v6)]? fun x9 => s_l5Qty_L1 a0 k1_0 n (w64 (v5 + x9.Qty), w64 (v6 + (1 : Int)))) else none) else k1_0 v5)
def s_l5Qty (a0 : (List MLot)) : Option Int :=
    s_l5Qty_L1 a0 (fun w11 => some w11) FUEL ((0 : Int), (0 : Int))
def s_l4Of_L1 (a0 : (List MBal)) (a1 : Int) (a2 : Int) (k1_0 : Unit → Option Int) : Nat → Int → Option Int
  | 0, _ => none
  | n + 1, v7 =>
  (if v7 < (ln (List.map MBal.av a0)) then (if 0 ≤ v7 then (Option.bind a0[(Int.toNat v7)]? fun x10 => (if x10.Account = a1 then (if x10.Instr = a2 then some x10.Amount else s_l4Of_L1 a0 a1 a2 k1_0 n (w64 (v7 + (1 : Int)))) else s_l4Of_L1 a0 a1 a2 k1_0 n (w64 (v7 + (1 : Int))))) else none) else k1_0 ())
def s_l4Of (a0 : (List MBal)) (a1 : Int) (a2 : Int) : Option Int :=
    s_l4Of_L1 a0 a1 a2 (fun _ => some (0 : Int)) FUEL (0 : Int)
def s_l6Lots_L1 (a0 : MBooks) (k1_0 : Unit → Option Bool) : Nat → Int → Option Bool
  | 0, _ => none
  | n + 1, v12 =>
  (if v12 < (ln (List.map MLot.av a0.Lots)) then (if 0 ≤ v12 then (Option.bind a0.Lots[(Int.toNat v12)]? fun x15 => (Option.bind (s_AccountKind a0.Accounts x15.Account) fun y17 => (if y17 ≠ (1 : Int) then some false else (Option.bind (s_InstrKind a0.Instrs x15.Instr) fun y20 => (if y20 ≠ (2 : Int) then some false else (if a0.Lot < x15.No then some false else s_l6Lots_L1 a0 k1_0 n (w64 (v12 + (1 : Int))))))))) else none) else k1_0 ())
def s_l6Lots_L3 (a0 : MBooks) (v57 : Int) (k3_4 : Unit → Option Bool) : Nat → Int → Option Bool
  | 0, _ => none
  | n + 1, v75 =>
  (if v75 < (ln (List.map MInstr.av a0.Instrs)) then (if 0 ≤ v57 then (Option.bind a0.Accounts[(Int.toNat v57)]? fun x78 => (if x78.Kind = (1 : Int) then (if 0 ≤ v75 then (Option.bind a0.Instrs[(Int.toNat v75)]? fun x82 => (if x82.Kind = (2 : Int) then (Option.bind (s_l5Split a0.Lots x78.No x82.No) fun y85 => (Option.bind (s_l5Qty y85.1) fun y87 => (Option.bind (s_l4Of a0.Bals x78.No x82.No) fun y89 => (if y87 ≠ y89 then some false else s_l6Lots_L3 a0 v57 k3_4 n (w64 (v75 + (1 : Int))))))) else s_l6Lots_L3 a0 v57 k3_4 n (w64 (v75 + (1 : Int))))) else none) else s_l6Lots_L3 a0 v57 k3_4 n (w64 (v75 + (1 : Int))))) else none) else k3_4 ())
def s_l6Lots_L2 (a0 : MBooks) (k2_2 : Unit → Option Bool) : Nat → Int → Option Bool
  | 0, _ => none
  | n + 1, v57 =>
  (if v57 < (ln (List.map MAccount.av a0.Accounts)) then s_l6Lots_L3 a0 v57 (fun _ => s_l6Lots_L2 a0 k2_2 n (w64 (v57 + (1 : Int)))) FUEL (0 : Int) else k2_2 ())
def s_l6Lots (a0 : MBooks) : Option Bool :=
    s_l6Lots_L1 a0 (fun _ => s_l6Lots_L2 a0 (fun _ => some true) FUEL (0 : Int)) FUEL (0 : Int)
def s_BooksOk_L1 (a0 : MBooks) (k1_0 : Unit → Option Bool) : Nat → Int → Option Bool
  | 0, _ => none
  | n + 1, v41 =>
  (if v41 < (ln (List.map MTrade.av a0.Trades)) then (if 0 ≤ v41 then (Option.bind a0.Trades[(Int.toNat v41)]? fun x44 => (Option.bind (s_AccountKind a0.Accounts x44.Buyer) fun y46 => (if y46 ≠ (1 : Int) then some false else (Option.bind (s_AccountKind a0.Accounts x44.Seller) fun y49 => (if y49 ≠ (1 : Int) then some false else (Option.bind (s_InstrKind a0.Instrs x44.Paper) fun y52 => (if y52 ≠ (2 : Int) then some false else (Option.bind (s_InstrKind a0.Instrs x44.Cash) fun y55 => (if y55 ≠ (1 : Int) then some false else s_BooksOk_L1 a0 k1_0 n (w64 (v41 + (1 : Int)))))))))))) else none) else k1_0 ())
def s_BooksOk (a0 : MBooks) : Option Bool :=
    (Option.bind (s_AccountsOk a0.Accounts) fun y1 => (if ¬ (y1 = true) then some false else (Option.bind (s_InstrsOk a0.Instrs) fun y4 => (if ¬ (y4 = true) then some false else (Option.bind (s_BalsOk a0.Bals) fun y7 => (if ¬ (y7 = true) then some false else (Option.bind (s_LotsOk a0.Lots) fun y10 => (if ¬ (y10 = true) then some false else (Option.bind (s_TradesOk a0.Trades) fun y13 => (if ¬ (y13 = true) then some false else (Option.bind (s_l1In a0.Lot (0 : Int) (1000000000 : Int)) fun y16 => (if ¬ (y16 = true) then some false else (Option.bind (s_l6Bals a0) fun y19 => (if ¬ (y19 = true) then some false else (Option.bind (s_l6Lots a0) fun y22 => (if ¬ (y22 = true) then some false else s_BooksOk_L1 a0 (fun _ => some true) FUEL (0 : Int)))))))))))))))))
def s_BooksRead_L2 (v176 : Int) (y184 : ((List (List Int)) × Int × Bool)) (k2_2 : (List MAccount) × (List MInstr) × (List MBal) × (List MLot) × (List MTrade) → Option ((List MAccount) × (List MInstr) × (List MBal) × (List MLot) × (List MTrade) × Int × Bool)) : Nat → ((List MAccount) × (List MInstr) × (List MBal) × (List MLot) × (List MTrade) × Int) → Option ((List MAccount) × (List MInstr) × (List MBal) × (List MLot) × (List MTrade) × Int × Bool)
  | 0, _ => none
  | n + 1, (v261, v262, v263, v264, v265, v266) =>
  (if v266 < (ln (List.map (sv 1 iv) y184.1)) then (if 0 ≤ v266 ∧ v266 < (ln (List.map (sv 1 iv) y184.1)) then (Option.bind y184.1[(Int.toNat v266)]? fun x269 => (if v176 = (0 : Int) then (if 0 ≤ (0 : Int) then (Option.bind x269[(Int.toNat (0 : Int))]? fun x273 => (if 0 ≤ (1 : Int) then (Option.bind x269[(Int.toNat (1 : Int))]? fun x276 => (if (List.length (List.map MAccount.av v261) + List.length (List.map MAccount.av [(MAccount.mk x273 x276)])) * 16 ≤ 140737488355328 then s_BooksRead_L2 v176 y184 k2_2 n ((v261 ++ [(MAccount.mk x273 x276)]), v262, v263, v264, v265, w64 (v266 + (1 : Int))) else none)) else none)) else none) else (if v176 = (1 : Int) then (if 0 ≤ (0 : Int) then (Option.bind x269[(Int.toNat (0 : Int))]? fun x281 => (if 0 ≤ (1 : Int) then (Option.bind x269[(Int.toNat (1 : Int))]? fun x284 => (if (List.length (List.map MInstr.av v262) + List.length (List.map MInstr.av [(MInstr.mk x281 x284)])) * 16 ≤ 140737488355328 then s_BooksRead_L2 v176 y184 k2_2 n (v261, (v262 ++ [(MInstr.mk x281 x284)]), v263, v264, v265, w64 (v266 + (1 : Int))) else none)) else none)) else none) else (if v176 = (2 : Int) then (if 0 ≤ (0 : Int) then (Option.bind x269[(Int.toNat (0 : Int))]? fun x289 => (if 0 ≤ (1 : Int) then (Option.bind x269[(Int.toNat (1 : Int))]? fun x292 => (if 0 ≤ (2 : Int) then (Option.bind x269[(Int.toNat (2 : Int))]? fun x295 => (if (List.length (List.map MBal.av v263) + List.length (List.map MBal.av [(MBal.mk x289 x292 (w64 (x295 - (1000000000000000 : Int))))])) * 24 ≤ 140737488355328 then s_BooksRead_L2 v176 y184 k2_2 n (v261, v262, (v263 ++ [(MBal.mk x289 x292 (w64 (x295 - (1000000000000000 : Int))))]), v264, v265, w64 (v266 + (1 : Int))) else none)) else none)) else none)) else none) else (if v176 = (3 : Int) then (if 0 ≤ (0 : Int) then (Option.bind x269[(Int.toNat (0 : Int))]? fun x300 => (if 0 ≤ (1 : Int) then (Option.bind x269[(Int.toNat (1 : Int))]? fun x303 => (if 0 ≤ (2 : Int) then (Option.bind x269[(Int.toNat (2 : Int))]? fun x306 => (if 0 ≤ (3 : Int) then (Option.bind x269[(Int.toNat (3 : Int))]? fun x309 => (if 0 ≤ (4 : Int) then (Option.bind x269[(Int.toNat (4 : Int))]? fun x312 => (if (List.length (List.map MLot.av v264) + List.length (List.map MLot.av [(MLot.mk x300 x303 x306 x309 x312)])) * 40 ≤ 140737488355328 then s_BooksRead_L2 v176 y184 k2_2 n (v261, v262, v263, (v264 ++ [(MLot.mk x300 x303 x306 x309 x312)]), v265, w64 (v266 + (1 : Int))) else none)) else none)) else none)) else none)) else none)) else none) else (if v176 = (4 : Int) then (if 0 ≤ (0 : Int) then (Option.bind x269[(Int.toNat (0 : Int))]? fun x317 => (if 0 ≤ (1 : Int) then (Option.bind x269[(Int.toNat (1 : Int))]? fun x320 => (if 0 ≤ (2 : Int) then (Option.bind x269[(Int.toNat (2 : Int))]? fun x323 => (if 0 ≤ (3 : Int) then (Option.bind x269[(Int.toNat (3 : Int))]? fun x326 => (if 0 ≤ (4 : Int) then (Option.bind x269[(Int.toNat (4 : Int))]? fun x329 => (if 0 ≤ (5 : Int) then (Option.bind x269[(Int.toNat (5 : Int))]? fun x332 => (if 0 ≤ (6 : Int) then (Option.bind x269[(Int.toNat (6 : Int))]? fun x335 => (if 0 ≤ (7 : Int) then (Option.bind x269[(Int.toNat (7 : Int))]? fun x338 => (if (List.length (List.map MTrade.av v265) + List.length (List.map MTrade.av [(MTrade.mk x317 x320 x323 x326 x329 x332 x335 x338)])) * 64 ≤ 140737488355328 then s_BooksRead_L2 v176 y184 k2_2 n (v261, v262, v263, v264, (v265 ++ [(MTrade.mk x317 x320 x323 x326 x329 x332 x335 x338)]), w64 (v266 + (1 : Int))) else none)) else none)) else none)) else none)) else none)) else none)) else none)) else none)) else none) else s_BooksRead_L2 v176 y184 k2_2 n (v261, v262, v263, v264, v265, w64 (v266 + (1 : Int))))))))) else none) else k2_2 (v261, v262, v263, v264, v265))
def s_BooksRead_L1 (a0 : (List UInt8)) (k1_0 : (List MAccount) × (List MInstr) × (List MBal) × (List MLot) × (List MTrade) × Int → Option ((List MAccount) × (List MInstr) × (List MBal) × (List MLot) × (List MTrade) × Int × Bool)) : Nat → ((List MAccount) × (List MInstr) × (List MBal) × (List MLot) × (List MTrade) × Int × Int) → Option ((List MAccount) × (List MInstr) × (List MBal) × (List MLot) × (List MTrade) × Int × Bool)
  | 0, _ => none
  | n + 1, (v170, v171, v172, v173, v174, v175, v176) =>
  (if v176 < (5 : Int) then (if 0 ≤ v176 ∧ v176 < (ln (List.map iv [(2 : Int), (2 : Int), (3 : Int), (5 : Int), (8 : Int)])) then (Option.bind [(2 : Int), (2 : Int), (3 : Int), (5 : Int), (8 : Int)][(Int.toNat v176)]? fun x179 => (if 0 ≤ v176 ∧ v176 < (ln (List.map iv [(20 : Int), (8 : Int), (160 : Int), (120 : Int), (30 : Int)])) then (Option.bind [(20 : Int), (8 : Int), (160 : Int), (120 : Int), (30 : Int)][(Int.toNat v176)]? fun x182 => (Option.bind (s_l13Rows a0 v175 x179 x182) fun y184 => (if ¬ (y184.2.2 = true) then some ([], [], [], [], [], (0 : Int), false) else s_BooksRead_L2 v176 y184 (fun (w341, w342, w343, w344, w345) => s_BooksRead_L1 a0 k1_0 n (w341, w342, w343, w344, w345, y184.2.1, w64 (v176 + (1 : Int)))) FUEL (v170, v171, v172, v173, v174, (0 : Int))))) else none)) else none) else k1_0 (v170, v171, v172, v173, v174, v175))
def s_BooksRead (a0 : (List UInt8)) : Option ((List MAccount) × (List MInstr) × (List MBal) × (List MLot) × (List MTrade) × Int × Bool) :=
    s_BooksRead_L1 a0 (fun (w346, w347, w348, w349, w350, w351) => (Option.bind (s_GetNum a0 w351) fun y352 => (if ¬ (y352.2.2 = true) then some ([], [], [], [], [], (0 : Int), false) else (if y352.2.1 ≠ (ln (List.map u8 a0)) then some ([], [], [], [], [], (0 : Int), false) else (Option.bind (s_BooksOk (MBooks.mk w346 w347 w348 w349 w350 y352.1)) fun y356 => (if ¬ (y356 = true) then some ([], [], [], [], [], (0 : Int), false) else some (w346, w347, w348, w349, w350, y352.1, true))))))) FUEL ([], [], [], [], [], (0 : Int), (0 : Int))
def s_SaveLoad (a0 : MDisk) : Option (Int × (List MAccount) × (List MInstr) × (List MBal) × (List MLot) × (List MTrade) × Int × Bool) :=
    (Option.bind (s_DiskRead a0 (21 : Int)) fun y1 => (if ¬ (y1.2 = true) then some ((0 : Int), [], [], [], [], [], (0 : Int), false) else (Option.bind (s_Unseal y1.1 (0 : Int)) fun y4 => (if y4.2.2 ≠ (0 : Int) then some ((0 : Int), [], [], [], [], [], (0 : Int), false) else (if y4.2.1 ≠ (ln y1.1) then some ((0 : Int), [], [], [], [], [], (0 : Int), false) else (Option.bind (s_GetNum y4.1 (0 : Int)) fun y8 => (if ¬ (y8.2.2 = true) then some ((0 : Int), [], [], [], [], [], (0 : Int), false) else (Option.bind (s_l15Seg y8.1) fun y11 => (if ¬ (y11 = true) then some ((0 : Int), [], [], [], [], [], (0 : Int), false) else (if 0 ≤ y8.2.1 ∧ y8.2.1 ≤ (ln (List.map u8 y4.1)) then (Option.bind (s_BooksRead (List.take ((List.length (List.map u8 y4.1)) - (Int.toNat y8.2.1)) (List.drop (Int.toNat y8.2.1) y4.1))) fun y15 => (if ¬ (y15.2.2.2.2.2.2 = true) then some ((0 : Int), [], [], [], [], [], (0 : Int), false) else some (y8.1, y15.1, y15.2.1, y15.2.2.1, y15.2.2.2.1, y15.2.2.2.2.1, y15.2.2.2.2.2.1, true))) else none))))))))))
def i_fileAt_c1 (a0 : MFile) (a1_0 : Int) : Option Bool :=
    some (decide (a0.Name = a1_0))
def g_IndexFunc_File_L1 (a0 : (List MFile)) (a1_0_0 : Int) (k1_0 : Unit → Option Int) : Nat → Int → Option Int
  | 0, _ => none
  | n + 1, v8 =>
  (if v8 < (ln (List.map MFile.av a0)) then (if 0 ≤ v8 then (Option.bind a0[(Int.toNat v8)]? fun x11 => (Option.bind (i_fileAt_c1 x11 a1_0_0) fun y13 => (if y13 = true then some v8 else g_IndexFunc_File_L1 a0 a1_0_0 k1_0 n (w64 (v8 + (1 : Int)))))) else none) else k1_0 ())
def g_IndexFunc_File (a0 : (List MFile)) (a1_0_0 : Int) : Option Int :=
    g_IndexFunc_File_L1 a0 a1_0_0 (fun _ => some (-1 : Int)) FUEL (0 : Int)
def i_fileAt (a0 : MDisk) (a1 : Int) : Option Int :=
    (Option.bind (g_IndexFunc_File a0.Files a1) fun y1 => some y1)
def i_in (a0 : Int) (a1 : Int) (a2 : Int) : Option Bool :=
    (if a1 ≤ a0 then some (decide (a0 ≤ a2)) else some false)
def i_isFile (a0 : Int) : Option Bool :=
    (Option.bind (i_in a0 (0 : Int) (21 : Int)) fun y1 => some y1)
def i_usedRoom_L1 (a0 : MDisk) (k1_0 : Int → Option Int) : Nat → (Int × Int) → Option Int
  | 0, _ => none
  | n + 1, (v5, v6) =>
  (if v6 < (ln (List.map MFile.av a0.Files)) then (if 0 ≤ v6 then (Option.bind a0.Files[(Int.toNat v6)]? fun x9 => i_usedRoom_L1 a0 k1_0 n (w64 (v5 + (w64 ((ln x9.Safe) + (ln x9.Late)))), w64 (v6 + (1 : Int)))) else none) else k1_0 v5)
def i_usedRoom (a0 : MDisk) : Option Int :=
    i_usedRoom_L1 a0 (fun w11 => some w11) FUEL ((0 : Int), (0 : Int))
def i_DiskOk_L1 (a0 : MDisk) (k1_0 : Unit → Option Bool) : Nat → Int → Option Bool
  | 0, _ => none
  | n + 1, v13 =>
  (if v13 < (ln (List.map MFile.av a0.Files)) then (if 0 ≤ v13 then (Option.bind a0.Files[(Int.toNat v13)]? fun x16 => (Option.bind (i_isFile x16.Name) fun y18 => (if ¬ (y18 = true) then some false else (if (0 : Int) < v13 then (if 0 ≤ w64 (v13 - (1 : Int)) then (Option.bind a0.Files[(Int.toNat (w64 (v13 - (1 : Int))))]? fun x23 => (if x16.Name ≤ x23.Name then some false else i_DiskOk_L1 a0 k1_0 n (w64 (v13 + (1 : Int))))) else none) else i_DiskOk_L1 a0 k1_0 n (w64 (v13 + (1 : Int))))))) else none) else k1_0 ())
def i_DiskOk (a0 : MDisk) : Option Bool :=
    i_DiskOk_L1 a0 (fun _ => (Option.bind (i_in a0.Room (0 : Int) (60000 : Int)) fun y26 => (if y26 = true then (Option.bind (i_usedRoom a0) fun y29 => some (decide (y29 ≤ a0.Room))) else some false))) FUEL (0 : Int)
def i_DiskRead (a0 : MDisk) (a1 : Int) : Option ((List UInt8) × Bool) :=
    (Option.bind (i_fileAt a0 a1) fun y1 => (if y1 < (0 : Int) then some (([] : List UInt8), false) else (Option.bind (i_DiskOk a0) fun y4 => (if ¬ (y4 = true) then some (([] : List UInt8), false) else (if 0 ≤ y1 then (Option.bind a0.Files[(Int.toNat y1)]? fun x8 => (if List.length x8.Safe + List.length x8.Late ≤ maxLen then some ((x8.Safe ++ x8.Late), true) else none)) else none)))))
def i_GetNum_L1 (a0 : (List UInt8)) (a1 : Int) (k1_0 : Unit → Option (Int × Int × Bool)) : Nat → (Int × Int) → Option (Int × Int × Bool)
  | 0, _ => none
  | n + 1, (v13, v14) =>
  (if v14 < (9 : Int) then (if w64 (a1 + v14) < (ln (List.map u8 a0)) then (if 0 ≤ w64 (a1 + v14) then (Option.bind a0[(Int.toNat (w64 (a1 + v14)))]? fun x18 => (if 0 ≤ w64 ((7 : Int) * v14) then (if (127 : Int) < w64 ((bn x18)) then i_GetNum_L1 a0 a1 k1_0 n (bor .i64 v13 (w64 ((band .i64 (w64 ((bn x18))) (127 : Int)) * 2 ^ (min (Int.toNat (w64 ((7 : Int) * v14))) (IntKind.bits .i64)))), w64 (v14 + (1 : Int))) else (if w64 ((bn x18)) = (0 : Int) then (if (0 : Int) < v14 then some ((0 : Int), (0 : Int), false) else some ((bor .i64 v13 (w64 ((band .i64 (w64 ((bn x18))) (127 : Int)) * 2 ^ (min (Int.toNat (w64 ((7 : Int) * v14))) (IntKind.bits .i64))))), (w64 ((w64 (a1 + v14)) + (1 : Int))), true)) else some ((bor .i64 v13 (w64 ((band .i64 (w64 ((bn x18))) (127 : Int)) * 2 ^ (min (Int.toNat (w64 ((7 : Int) * v14))) (IntKind.bits .i64))))), (w64 ((w64 (a1 + v14)) + (1 : Int))), true))) else none)) else none) else k1_0 ()) else k1_0 ())
def i_GetNum (a0 : (List UInt8)) (a1 : Int) : Option (Int × Int × Bool) :=
    (Option.bind (i_in a1 (0 : Int) (w64 ((ln (List.map u8 a0)) - (1 : Int)))) fun y1 => (if ¬ (y1 = true) then some ((0 : Int), (0 : Int), false) else i_GetNum_L1 a0 a1 (fun _ => some ((0 : Int), (0 : Int), false)) FUEL ((0 : Int), (0 : Int))))
def i_Check_L1 (a0 : (List UInt8)) (k1_0 : Int × Int → Option Int) : Nat → (Int × Int × Int) → Option Int
  | 0, _ => none
  | n + 1, (v5, v6, v7) =>
  (if v7 < (ln (List.map u8 a0)) then (if 0 ≤ v7 then (Option.bind a0[(Int.toNat v7)]? fun x10 => i_Check_L1 a0 k1_0 n (Int.tmod (w64 ((w64 (v5 + (w64 ((bn x10))))) + (1 : Int))) (65535 : Int), Int.tmod (w64 (v6 + (Int.tmod (w64 ((w64 (v5 + (w64 ((bn x10))))) + (1 : Int))) (65535 : Int)))) (65535 : Int), w64 (v7 + (1 : Int)))) else none) else k1_0 (v5, v6))
def i_Check (a0 : (List UInt8)) : Option Int :=
    i_Check_L1 a0 (fun (w12, w13) => some (w64 ((w64 ((65536 : Int) * w13)) + w12))) FUEL ((0 : Int), (0 : Int), (0 : Int))
def i_checkBytes (a0 : (List UInt8)) : Option (List UInt8) :=
    (Option.bind (i_Check a0) fun y1 => some [(byteOf y1), (byteOf (Int.fdiv y1 (2 ^ (Int.toNat (8 : Int))))), (byteOf (Int.fdiv y1 (2 ^ (Int.toNat (16 : Int))))), (byteOf (Int.fdiv y1 (2 ^ (Int.toNat (24 : Int)))))])
def g_Equal_byte_L1 (a0 : (List UInt8)) (a1 : (List UInt8)) (k1_0 : Unit → Option Bool) : Nat → Int → Option Bool
  | 0, _ => none
  | n + 1, v9 =>
  (if v9 < (ln (List.map u8 a0)) then (if 0 ≤ v9 then (Option.bind a0[(Int.toNat v9)]? fun x12 => (Option.bind a1[(Int.toNat v9)]? fun x14 => (if (bn x12) ≠ (bn x14) then some false else g_Equal_byte_L1 a0 a1 k1_0 n (w64 (v9 + (1 : Int)))))) else none) else k1_0 ())
def g_Equal_byte (a0 : (List UInt8)) (a1 : (List UInt8)) : Option Bool :=
    (if (ln (List.map u8 a0)) ≠ (ln (List.map u8 a1)) then some false else g_Equal_byte_L1 a0 a1 (fun _ => some true) FUEL (0 : Int))
def g_Clone_byte (a0 : (List UInt8)) : Option (List UInt8) :=
    if (List.length (List.map u8 ([] : List UInt8)) + List.length (List.map u8 a0)) * 1 ≤ 140737488355328 then some a0 else none
def i_Unseal (a0 : (List UInt8)) (a1 : Int) : Option ((List UInt8) × Int × Int) :=
    (Option.bind (i_GetNum a0 a1) fun y1 => (if ¬ (y1.2.2 = true) then some ([], (0 : Int), (1 : Int)) else (if (9000 : Int) < y1.1 then some ([], (0 : Int), (1 : Int)) else (if w64 ((ln (List.map u8 a0)) - y1.2.1) < w64 (y1.1 + (4 : Int)) then some ([], (0 : Int), (2 : Int)) else (if 0 ≤ y1.2.1 ∧ y1.2.1 ≤ w64 (y1.2.1 + y1.1) ∧ w64 (y1.2.1 + y1.1) ≤ (ln (List.map u8 a0)) then (Option.bind (i_checkBytes (sub a0 (Int.toNat y1.2.1) (Int.toNat (w64 (y1.2.1 + y1.1))) false)) fun y7 => (if 0 ≤ w64 (y1.2.1 + y1.1) ∧ w64 (y1.2.1 + y1.1) ≤ w64 ((w64 (y1.2.1 + y1.1)) + (4 : Int)) ∧ w64 ((w64 (y1.2.1 + y1.1)) + (4 : Int)) ≤ (ln (List.map u8 a0)) then (Option.bind (g_Equal_byte y7 (sub a0 (Int.toNat (w64 (y1.2.1 + y1.1))) (Int.toNat (w64 ((w64 (y1.2.1 + y1.1)) + (4 : Int)))) false)) fun y10 => (if ¬ (y10 = true) then some ([], (0 : Int), (3 : Int)) else (Option.bind (g_Clone_byte (sub a0 (Int.toNat y1.2.1) (Int.toNat (w64 (y1.2.1 + y1.1))) false)) fun y13 => some (y13, (w64 ((w64 (y1.2.1 + y1.1)) + (4 : Int))), (0 : Int))))) else none)) else none)))))
def i_isSeg (a0 : Int) : Option Bool :=
    (Option.bind (i_in a0 (0 : Int) (19 : Int)) fun y1 => some y1)
def i_numReader_one (a0_0 : (List UInt8)) (a0_1 : Int) (a0_2 : Bool) : Option (Int × Int × Bool) :=
    (Option.bind (i_GetNum a0_0 a0_1) fun y1 => (if a0_2 = true then some ((0 : Int), a0_1, true) else (if ¬ (y1.2.2 = true) then some ((0 : Int), a0_1, true) else some (y1.1, y1.2.1, a0_2))))
def i_numReader_many (a0_0 : (List UInt8)) (a0_1 : Int) (a0_2 : Bool) (a1 : Int) : Option (Int × Int × Bool) :=
    (Option.bind (i_numReader_one a0_0 a0_1 a0_2) fun y1 => (if a1 < y1.1 then some ((0 : Int), y1.2.1, true) else some (y1.1, y1.2.1, y1.2.2)))
def i_numReader_lot (a0_0 : (List UInt8)) (a0_1 : Int) (a0_2 : Bool) : Option (Int × Int × Int × Int × Int × Int × Bool) :=
    (Option.bind (i_numReader_one a0_0 a0_1 a0_2) fun y1 => (Option.bind (i_numReader_one a0_0 y1.2.1 y1.2.2) fun y3 => (Option.bind (i_numReader_one a0_0 y3.2.1 y3.2.2) fun y5 => (Option.bind (i_numReader_one a0_0 y5.2.1 y5.2.2) fun y7 => (Option.bind (i_numReader_one a0_0 y7.2.1 y7.2.2) fun y9 => some (y1.1, y3.1, y5.1, y7.1, y9.1, y9.2.1, y9.2.2))))))
def i_numReader_trade (a0_0 : (List UInt8)) (a0_1 : Int) (a0_2 : Bool) : Option (Int × Int × Int × Int × Int × Int × Int × Int × Int × Bool) :=
    (Option.bind (i_numReader_one a0_0 a0_1 a0_2) fun y1 => (Option.bind (i_numReader_one a0_0 y1.2.1 y1.2.2) fun y3 => (Option.bind (i_numReader_one a0_0 y3.2.1 y3.2.2) fun y5 => (Option.bind (i_numReader_one a0_0 y5.2.1 y5.2.2) fun y7 => (Option.bind (i_numReader_one a0_0 y7.2.1 y7.2.2) fun y9 => (Option.bind (i_numReader_one a0_0 y9.2.1 y9.2.2) fun y11 => (Option.bind (i_numReader_one a0_0 y11.2.1 y11.2.2) fun y13 => (Option.bind (i_numReader_one a0_0 y13.2.1 y13.2.2) fun y15 => some (y1.1, y3.1, y5.1, y7.1, y9.1, y11.1, y13.1, y15.1, y15.2.1, y15.2.2)))))))))
def i_isNo (a0 : Int) : Option Bool :=
    (Option.bind (i_in a0 (1 : Int) (1000 : Int)) fun y1 => some y1)
def i_AccountsOk_L1 (a0 : (List MAccount)) (k1_0 : Unit → Option Bool) : Nat → Int → Option Bool
  | 0, _ => none
  | n + 1, v16 =>
  (if v16 < (ln (List.map MAccount.av a0)) then (if 0 ≤ v16 then (Option.bind a0[(Int.toNat v16)]? fun x19 => (Option.bind (i_isNo x19.No) fun y21 => (if ¬ (y21 = true) then some false else (Option.bind (i_in x19.Kind (1 : Int) (4 : Int)) fun y24 => (if ¬ (y24 = true) then some false else (if (0 : Int) < v16 then (if 0 ≤ w64 (v16 - (1 : Int)) then (Option.bind a0[(Int.toNat (w64 (v16 - (1 : Int))))]? fun x29 => (if x19.No ≤ x29.No then some false else i_AccountsOk_L1 a0 k1_0 n (w64 (v16 + (1 : Int))))) else none) else i_AccountsOk_L1 a0 k1_0 n (w64 (v16 + (1 : Int))))))))) else none) else k1_0 ())
def i_AccountsOk (a0 : (List MAccount)) : Option Bool :=
    i_AccountsOk_L1 a0 (fun _ => some (decide ((ln (List.map MAccount.av a0)) ≤ (20 : Int)))) FUEL (0 : Int)
def i_InstrsOk_L1 (a0 : (List MInstr)) (k1_0 : Unit → Option Bool) : Nat → Int → Option Bool
  | 0, _ => none
  | n + 1, v16 =>
  (if v16 < (ln (List.map MInstr.av a0)) then (if 0 ≤ v16 then (Option.bind a0[(Int.toNat v16)]? fun x19 => (Option.bind (i_isNo x19.No) fun y21 => (if ¬ (y21 = true) then some false else (Option.bind (i_in x19.Kind (1 : Int) (2 : Int)) fun y24 => (if ¬ (y24 = true) then some false else (if (0 : Int) < v16 then (if 0 ≤ w64 (v16 - (1 : Int)) then (Option.bind a0[(Int.toNat (w64 (v16 - (1 : Int))))]? fun x29 => (if x19.No ≤ x29.No then some false else i_InstrsOk_L1 a0 k1_0 n (w64 (v16 + (1 : Int))))) else none) else i_InstrsOk_L1 a0 k1_0 n (w64 (v16 + (1 : Int))))))))) else none) else k1_0 ())
def i_InstrsOk (a0 : (List MInstr)) : Option Bool :=
    i_InstrsOk_L1 a0 (fun _ => some (decide ((ln (List.map MInstr.av a0)) ≤ (8 : Int)))) FUEL (0 : Int)
def i_AmountOk (a0 : Int) : Option Bool :=
    (Option.bind (i_in a0 (-1000000000000000 : Int) (1000000000000000 : Int)) fun y1 => some y1)
def i_byBoth (a0 : Int) (a1 : Int) (a2 : Int) (a3 : Int) : Option Int :=
    (if a0 < a2 then some (-1 : Int) else (if a0 = a2 then (if a1 < a3 then some (-1 : Int) else (if a1 = a3 then some (0 : Int) else some (1 : Int))) else some (1 : Int)))
def i_BalsOk_L1 (a0 : (List MBal)) (k1_0 : Unit → Option Bool) : Nat → Int → Option Bool
  | 0, _ => none
  | n + 1, v22 =>
  (if v22 < (ln (List.map MBal.av a0)) then (if 0 ≤ v22 then (Option.bind a0[(Int.toNat v22)]? fun x25 => (Option.bind (i_isNo x25.Account) fun y27 => (if ¬ (y27 = true) then some false else (Option.bind (i_isNo x25.Instr) fun y30 => (if ¬ (y30 = true) then some false else (Option.bind (i_AmountOk x25.Amount) fun y33 => (if ¬ (y33 = true) then some false else (if x25.Amount = (0 : Int) then some false else (if (0 : Int) < v22 then (if 0 ≤ w64 (v22 - (1 : Int)) then (Option.bind a0[(Int.toNat (w64 (v22 - (1 : Int))))]? fun x39 => (Option.bind (i_byBoth x39.Account x39.Instr x25.Account x25.Instr) fun y41 => (if (0 : Int) ≤ y41 then some false else i_BalsOk_L1 a0 k1_0 n (w64 (v22 + (1 : Int)))))) else none) else i_BalsOk_L1 a0 k1_0 n (w64 (v22 + (1 : Int)))))))))))) else none) else k1_0 ())
def i_BalsOk (a0 : (List MBal)) : Option Bool :=
    i_BalsOk_L1 a0 (fun _ => some (decide ((ln (List.map MBal.av a0)) ≤ (160 : Int)))) FUEL (0 : Int)
def i_lotForm (a0 : MLot) : Option Bool :=
    (Option.bind (i_isNo a0.Account) fun y1 => (if y1 = true then (Option.bind (i_isNo a0.Instr) fun y4 => (if y4 = true then (Option.bind (i_in a0.No (1 : Int) (1000000000 : Int)) fun y7 => (if y7 = true then (Option.bind (i_in a0.Qty (1 : Int) (1000000000000000 : Int)) fun y10 => (if y10 = true then (Option.bind (i_in a0.Cost (0 : Int) (1000000000000000 : Int)) fun y13 => some y13) else some false)) else some false)) else some false)) else some false))
def i_lotBefore (a0 : MLot) (a1 : MLot) : Option Int :=
    (Option.bind (i_byBoth a0.Account a0.Instr a1.Account a1.Instr) fun y1 => (if y1 ≠ (0 : Int) then some y1 else (if a0.No < a1.No then some (-1 : Int) else (if a1.No < a0.No then some (1 : Int) else some (0 : Int)))))
def g_Clone_Lot (a0 : (List MLot)) : Option (List MLot) :=
    if (List.length (List.map MLot.av ([] : List MLot)) + List.length (List.map MLot.av a0)) * 40 ≤ 140737488355328 then some a0 else none
def i_isLot (a0 : MLot) (a1 : Int) (a2 : Int) : Option Bool :=
    (if a0.Account = a1 then some (decide (a0.Instr = a2)) else some false)
def i_lotsOf_c1 (a0 : MLot) (a1_0 : Int) (a2_0 : Int) : Option Bool :=
    (Option.bind (i_isLot a0 a1_0 a2_0) fun y1 => some (decide (¬ (y1 = true))))
def g_IndexFunc_Lot_s1_L1 (a0 : (List MLot)) (a1_0_0 : Int) (a1_1_0 : Int) (k1_0 : Unit → Option Int) : Nat → Int → Option Int
  | 0, _ => none
  | n + 1, v8 =>
  (if v8 < (ln (List.map MLot.av a0)) then (if 0 ≤ v8 then (Option.bind a0[(Int.toNat v8)]? fun x11 => (Option.bind (i_lotsOf_c1 x11 a1_0_0 a1_1_0) fun y13 => (if y13 = true then some v8 else g_IndexFunc_Lot_s1_L1 a0 a1_0_0 a1_1_0 k1_0 n (w64 (v8 + (1 : Int)))))) else none) else k1_0 ())
def g_IndexFunc_Lot_s1 (a0 : (List MLot)) (a1_0_0 : Int) (a1_1_0 : Int) : Option Int :=
    g_IndexFunc_Lot_s1_L1 a0 a1_0_0 a1_1_0 (fun _ => some (-1 : Int)) FUEL (0 : Int)
def g_DeleteFunc_Lot_L1 (a1_0_0 : Int) (a1_1_0 : Int) (k1_0 : (List MLot) × Int → Option (List MLot)) : Nat → ((List MLot) × Int × Int) → Option (List MLot)
  | 0, _ => none
  | n + 1, (v14, v15, v16) =>
  (if v16 < (ln (List.map MLot.av v14)) then (if 0 ≤ v16 ∧ v16 < (ln (List.map MLot.av v14)) then (Option.bind v14[(Int.toNat v16)]? fun x19 => (Option.bind (i_lotsOf_c1 x19 a1_0_0 a1_1_0) fun y21 => (if ¬ (y21 = true) then (if 0 ≤ v15 ∧ v15 < (ln (List.map MLot.av v14)) then (Option.bind v14[(Int.toNat v15)]? fun x25 => g_DeleteFunc_Lot_L1 a1_0_0 a1_1_0 k1_0 n ((List.set v14 (Int.toNat v15) x19), w64 (v15 + (1 : Int)), w64 (v16 + (1 : Int)))) else none) else g_DeleteFunc_Lot_L1 a1_0_0 a1_1_0 k1_0 n (v14, v15, w64 (v16 + (1 : Int)))))) else none) else k1_0 (v14, v15))
def g_DeleteFunc_Lot (a0 : (List MLot)) (a1_0_0 : Int) (a1_1_0 : Int) : Option (List MLot) :=
    (Option.bind (g_IndexFunc_Lot_s1 a0 a1_0_0 a1_1_0) fun y1 => (if y1 = (-1 : Int) then some a0 else g_DeleteFunc_Lot_L1 a1_0_0 a1_1_0 (fun (w27, w28) => (if 0 ≤ w28 ∧ w28 ≤ (ln (List.map MLot.av w27)) then (if (Int.toNat w28) + ((List.length (List.map MLot.av w27)) - (Int.toNat w28)) ≤ List.length (List.map MLot.av w27) then (if 0 ≤ w28 ∧ w28 ≤ (ln (List.map MLot.av (List.take (Int.toNat w28) w27 ++ List.replicate ((List.length (List.map MLot.av w27)) - (Int.toNat w28)) (MLot.mk (0 : Int) (0 : Int) (0 : Int) (0 : Int) (0 : Int)) ++ List.drop ((Int.toNat w28) + ((List.length (List.map MLot.av w27)) - (Int.toNat w28))) w27))) then some (List.take ((Int.toNat w28) - 0) (List.take (Int.toNat w28) w27 ++ List.replicate ((List.length (List.map MLot.av w27)) - (Int.toNat w28)) (MLot.mk (0 : Int) (0 : Int) (0 : Int) (0 : Int) (0 : Int)) ++ List.drop ((Int.toNat w28) + ((List.length (List.map MLot.av w27)) - (Int.toNat w28))) w27)) else none) else none) else none)) FUEL (a0, y1, w64 (y1 + (1 : Int)))))
def i_lotsOf (a0 : (List MLot)) (a1 : Int) (a2 : Int) : Option (List MLot) :=
    (Option.bind (g_Clone_Lot a0) fun y1 => (Option.bind (g_DeleteFunc_Lot y1 a1 a2) fun y3 => some y3))
def i_sumLots_L1 (a0 : (List MLot)) (k1_0 : Int × Int → Option (Int × Int)) : Nat → (Int × Int × Int) → Option (Int × Int)
  | 0, _ => none
  | n + 1, (v5, v6, v7) =>
  (if v7 < (ln (List.map MLot.av a0)) then (if 0 ≤ v7 then (Option.bind a0[(Int.toNat v7)]? fun x10 => i_sumLots_L1 a0 k1_0 n (w64 (v5 + x10.Qty), w64 (v6 + x10.Cost), w64 (v7 + (1 : Int)))) else none) else k1_0 (v5, v6))
def i_sumLots (a0 : (List MLot)) : Option (Int × Int) :=
    i_sumLots_L1 a0 (fun (w12, w13) => some (w12, w13)) FUEL ((0 : Int), (0 : Int), (0 : Int))
def i_LotsOk_c1 (a0 : MLot) (a1_0 : (List MLot)) : Option Bool :=
    (Option.bind (i_lotsOf a1_0 a0.Account a0.Instr) fun y1 => (Option.bind (i_sumLots y1) fun y3 => (Option.bind (i_AmountOk y3.1) fun y5 => (if ¬ (y5 = true) then some true else (Option.bind (i_AmountOk y3.2) fun y8 => some (decide (¬ (y8 = true))))))))
def g_IndexFunc_Lot_L1 (a0 : (List MLot)) (a1_0_0 : (List MLot)) (k1_0 : Unit → Option Int) : Nat → Int → Option Int
  | 0, _ => none
  | n + 1, v8 =>
  (if v8 < (ln (List.map MLot.av a0)) then (if 0 ≤ v8 then (Option.bind a0[(Int.toNat v8)]? fun x11 => (Option.bind (i_LotsOk_c1 x11 a1_0_0) fun y13 => (if y13 = true then some v8 else g_IndexFunc_Lot_L1 a0 a1_0_0 k1_0 n (w64 (v8 + (1 : Int)))))) else none) else k1_0 ())
def g_IndexFunc_Lot (a0 : (List MLot)) (a1_0_0 : (List MLot)) : Option Int :=
    g_IndexFunc_Lot_L1 a0 a1_0_0 (fun _ => some (-1 : Int)) FUEL (0 : Int)
def g_ContainsFunc_Lot (a0 : (List MLot)) (a1_0_0 : (List MLot)) : Option Bool :=
    (Option.bind (g_IndexFunc_Lot a0 a1_0_0) fun y1 => some (decide ((0 : Int) ≤ y1)))
def i_LotsOk_L1 (a0 : (List MLot)) (k1_0 : Unit → Option Bool) : Nat → Int → Option Bool
  | 0, _ => none
  | n + 1, v15 =>
  (if v15 < (ln (List.map MLot.av a0)) then (if 0 ≤ v15 then (Option.bind a0[(Int.toNat v15)]? fun x18 => (Option.bind (i_lotForm x18) fun y20 => (if ¬ (y20 = true) then some false else (if (0 : Int) < v15 then (if 0 ≤ w64 (v15 - (1 : Int)) then (Option.bind a0[(Int.toNat (w64 (v15 - (1 : Int))))]? fun x25 => (Option.bind (i_lotBefore x25 x18) fun y27 => (if (0 : Int) ≤ y27 then some false else i_LotsOk_L1 a0 k1_0 n (w64 (v15 + (1 : Int)))))) else none) else i_LotsOk_L1 a0 k1_0 n (w64 (v15 + (1 : Int))))))) else none) else k1_0 ())
def i_LotsOk (a0 : (List MLot)) : Option Bool :=
    i_LotsOk_L1 a0 (fun _ => (if (120 : Int) < (ln (List.map MLot.av a0)) then some false else (Option.bind (g_ContainsFunc_Lot a0 a0) fun y31 => some (decide (¬ (y31 = true)))))) FUEL (0 : Int)
def i_TradesOk_L1 (a0 : (List MTrade)) (k1_0 : Unit → Option Bool) : Nat → Int → Option Bool
  | 0, _ => none
  | n + 1, v35 =>
  (if v35 < (ln (List.map MTrade.av a0)) then (if 0 ≤ v35 then (Option.bind a0[(Int.toNat v35)]? fun x38 => (Option.bind (i_isNo x38.No) fun y40 => (if ¬ (y40 = true) then some false else (Option.bind (i_isNo x38.Buyer) fun y43 => (if ¬ (y43 = true) then some false else (Option.bind (i_isNo x38.Seller) fun y46 => (if ¬ (y46 = true) then some false else (Option.bind (i_isNo x38.Paper) fun y49 => (if ¬ (y49 = true) then some false else (Option.bind (i_isNo x38.Cash) fun y52 => (if ¬ (y52 = true) then some false else (if x38.Buyer = x38.Seller then some false else (Option.bind (i_in x38.Qty (1 : Int) (1000000000000000 : Int)) fun y56 => (if ¬ (y56 = true) then some false else (Option.bind (i_in x38.Price (0 : Int) (1000000000000000 : Int)) fun y59 => (if ¬ (y59 = true) then some false else (Option.bind (i_in x38.State (1 : Int) (3 : Int)) fun y62 => (if ¬ (y62 = true) then some false else (if (0 : Int) < v35 then (if 0 ≤ w64 (v35 - (1 : Int)) then (Option.bind a0[(Int.toNat (w64 (v35 - (1 : Int))))]? fun x67 => (if x38.No ≤ x67.No then some false else i_TradesOk_L1 a0 k1_0 n (w64 (v35 + (1 : Int))))) else none) else i_TradesOk_L1 a0 k1_0 n (w64 (v35 + (1 : Int)))))))))))))))))))))) else none) else k1_0 ())
def i_TradesOk (a0 : (List MTrade)) : Option Bool :=
    i_TradesOk_L1 a0 (fun _ => some (decide ((ln (List.map MTrade.av a0)) ≤ (30 : Int)))) FUEL (0 : Int)
def i_accountKind_L1 (a0 : (List MAccount)) (a1 : Int) (k1_0 : Unit → Option Int) : Nat → Int → Option Int
  | 0, _ => none
  | n + 1, v6 =>
  (if v6 < (ln (List.map MAccount.av a0)) then (if 0 ≤ v6 then (Option.bind a0[(Int.toNat v6)]? fun x9 => (if x9.No = a1 then some x9.Kind else i_accountKind_L1 a0 a1 k1_0 n (w64 (v6 + (1 : Int))))) else none) else k1_0 ())
def i_accountKind (a0 : (List MAccount)) (a1 : Int) : Option Int :=
    i_accountKind_L1 a0 a1 (fun _ => some (0 : Int)) FUEL (0 : Int)
def i_instrKind_L1 (a0 : (List MInstr)) (a1 : Int) (k1_0 : Unit → Option Int) : Nat → Int → Option Int
  | 0, _ => none
  | n + 1, v6 =>
  (if v6 < (ln (List.map MInstr.av a0)) then (if 0 ≤ v6 then (Option.bind a0[(Int.toNat v6)]? fun x9 => (if x9.No = a1 then some x9.Kind else i_instrKind_L1 a0 a1 k1_0 n (w64 (v6 + (1 : Int))))) else none) else k1_0 ())
def i_instrKind (a0 : (List MInstr)) (a1 : Int) : Option Int :=
    i_instrKind_L1 a0 a1 (fun _ => some (0 : Int)) FUEL (0 : Int)
def i_balsSum_L1 (a0 : (List MBal)) (a1 : Int) (k1_0 : Int → Option Int) : Nat → (Int × Int) → Option Int
  | 0, _ => none
  | n + 1, (v6, v7) =>
  (if v7 < (ln (List.map MBal.av a0)) then (if 0 ≤ v7 then (Option.bind a0[(Int.toNat v7)]? fun x10 => (if x10.Instr = a1 then i_balsSum_L1 a0 a1 k1_0 n (w64 (v6 + x10.Amount), w64 (v7 + (1 : Int))) else i_balsSum_L1 a0 a1 k1_0 n (v6, w64 (v7 + (1 : Int))))) else none) else k1_0 v6)
def i_balsSum (a0 : (List MBal)) (a1 : Int) : Option Int :=
    i_balsSum_L1 a0 a1 (fun w13 => some w13) FUEL ((0 : Int), (0 : Int))
def i_balsRight_L1 (a0 : MBooks) (k1_0 : Unit → Option Bool) : Nat → Int → Option Bool
  | 0, _ => none
  | n + 1, v19 =>
  (if v19 < (ln (List.map MBal.av a0.Bals)) then (if 0 ≤ v19 then (Option.bind a0.Bals[(Int.toNat v19)]? fun x22 => (Option.bind (i_accountKind a0.Accounts x22.Account) fun y24 => (if y24 = (0 : Int) then some false else (Option.bind (i_instrKind a0.Instrs x22.Instr) fun y27 => (if y27 = (0 : Int) then some false else (if y24 = (1 : Int) then (if x22.Amount < (0 : Int) then some false else (Option.bind (i_balsSum a0.Bals x22.Instr) fun y32 => (if y32 ≠ (0 : Int) then some false else i_balsRight_L1 a0 k1_0 n (w64 (v19 + (1 : Int)))))) else (Option.bind (i_balsSum a0.Bals x22.Instr) fun y35 => (if y35 ≠ (0 : Int) then some false else i_balsRight_L1 a0 k1_0 n (w64 (v19 + (1 : Int))))))))))) else none) else k1_0 ())
def i_balsRight (a0 : MBooks) : Option Bool :=
    i_balsRight_L1 a0 (fun _ => some true) FUEL (0 : Int)
def i_balAt_L1 (a0 : (List MBal)) (a1 : Int) (a2 : Int) (k1_0 : Unit → Option (Int × Bool)) : Nat → Int → Option (Int × Bool)
  | 0, _ => none
  | n + 1, v8 =>
  (if v8 < (ln (List.map MBal.av a0)) then (if 0 ≤ v8 then (Option.bind a0[(Int.toNat v8)]? fun x11 => (Option.bind (i_byBoth x11.Account x11.Instr a1 a2) fun y13 => (if (0 : Int) ≤ y13 then some (v8, (decide (y13 = (0 : Int)))) else i_balAt_L1 a0 a1 a2 k1_0 n (w64 (v8 + (1 : Int)))))) else none) else k1_0 ())
def i_balAt (a0 : (List MBal)) (a1 : Int) (a2 : Int) : Option (Int × Bool) :=
    i_balAt_L1 a0 a1 a2 (fun _ => some ((ln (List.map MBal.av a0)), false)) FUEL (0 : Int)
def i_balOf (a0 : (List MBal)) (a1 : Int) (a2 : Int) : Option Int :=
    (Option.bind (i_balAt a0 a1 a2) fun y1 => (if ¬ (y1.2 = true) then some (0 : Int) else (if 0 ≤ y1.1 then (Option.bind a0[(Int.toNat y1.1)]? fun x5 => some x5.Amount) else none)))
def i_lotsRight_L1 (a0 : MBooks) (k1_0 : Unit → Option Bool) : Nat → Int → Option Bool
  | 0, _ => none
  | n + 1, v12 =>
  (if v12 < (ln (List.map MLot.av a0.Lots)) then (if 0 ≤ v12 then (Option.bind a0.Lots[(Int.toNat v12)]? fun x15 => (Option.bind (i_accountKind a0.Accounts x15.Account) fun y17 => (if y17 ≠ (1 : Int) then some false else (Option.bind (i_instrKind a0.Instrs x15.Instr) fun y20 => (if y20 ≠ (2 : Int) then some false else (if a0.Lot < x15.No then some false else i_lotsRight_L1 a0 k1_0 n (w64 (v12 + (1 : Int))))))))) else none) else k1_0 ())
def i_lotsRight_L3 (a0 : MBooks) (x58 : MAccount) (k3_4 : Unit → Option Bool) : Nat → Int → Option Bool
  | 0, _ => none
  | n + 1, v73 =>
  (if v73 < (ln (List.map MInstr.av a0.Instrs)) then (if 0 ≤ v73 then (Option.bind a0.Instrs[(Int.toNat v73)]? fun x76 => (if x58.Kind ≠ (1 : Int) then i_lotsRight_L3 a0 x58 k3_4 n (w64 (v73 + (1 : Int))) else (if x76.Kind ≠ (2 : Int) then i_lotsRight_L3 a0 x58 k3_4 n (w64 (v73 + (1 : Int))) else (Option.bind (i_lotsOf a0.Lots x58.No x76.No) fun y80 => (Option.bind (i_sumLots y80) fun y82 => (Option.bind (i_balOf a0.Bals x58.No x76.No) fun y84 => (if y82.1 ≠ y84 then some false else i_lotsRight_L3 a0 x58 k3_4 n (w64 (v73 + (1 : Int)))))))))) else none) else k3_4 ())
def i_lotsRight_L2 (a0 : MBooks) (k2_2 : Unit → Option Bool) : Nat → Int → Option Bool
  | 0, _ => none
  | n + 1, v55 =>
  (if v55 < (ln (List.map MAccount.av a0.Accounts)) then (if 0 ≤ v55 then (Option.bind a0.Accounts[(Int.toNat v55)]? fun x58 => i_lotsRight_L3 a0 x58 (fun _ => i_lotsRight_L2 a0 k2_2 n (w64 (v55 + (1 : Int)))) FUEL (0 : Int)) else none) else k2_2 ())
def i_lotsRight (a0 : MBooks) : Option Bool :=
    i_lotsRight_L1 a0 (fun _ => i_lotsRight_L2 a0 (fun _ => some true) FUEL (0 : Int)) FUEL (0 : Int)
def i_tradesRight_c1 (a0 : MTrade) (a1_0 : (List MAccount)) (a1_1 : (List MInstr)) (a1_2 : (List MBal)) (a1_3 : (List MLot)) (a1_4 : (List MTrade)) (a1_5 : Int) : Option Bool :=
    (Option.bind (i_accountKind a1_0 a0.Buyer) fun y1 => (if y1 ≠ (1 : Int) then some true else (Option.bind (i_accountKind a1_0 a0.Seller) fun y4 => (if y4 ≠ (1 : Int) then some true else (Option.bind (i_instrKind a1_1 a0.Paper) fun y7 => (if y7 ≠ (2 : Int) then some true else (Option.bind (i_instrKind a1_1 a0.Cash) fun y10 => some (decide (y10 ≠ (1 : Int))))))))))
def g_IndexFunc_Trade_L1 (a0 : (List MTrade)) (a1_0_0 : (List MAccount)) (a1_0_1 : (List MInstr)) (a1_0_2 : (List MBal)) (a1_0_3 : (List MLot)) (a1_0_4 : (List MTrade)) (a1_0_5 : Int) (k1_0 : Unit → Option Int) : Nat → Int → Option Int
  | 0, _ => none
  | n + 1, v8 =>
  (if v8 < (ln (List.map MTrade.av a0)) then (if 0 ≤ v8 then (Option.bind a0[(Int.toNat v8)]? fun x11 => (Option.bind (i_tradesRight_c1 x11 a1_0_0 a1_0_1 a1_0_2 a1_0_3 a1_0_4 a1_0_5) fun y13 => (if y13 = true then some v8 else g_IndexFunc_Trade_L1 a0 a1_0_0 a1_0_1 a1_0_2 a1_0_3 a1_0_4 a1_0_5 k1_0 n (w64 (v8 + (1 : Int)))))) else none) else k1_0 ())
def g_IndexFunc_Trade (a0 : (List MTrade)) (a1_0_0 : (List MAccount)) (a1_0_1 : (List MInstr)) (a1_0_2 : (List MBal)) (a1_0_3 : (List MLot)) (a1_0_4 : (List MTrade)) (a1_0_5 : Int) : Option Int :=
    g_IndexFunc_Trade_L1 a0 a1_0_0 a1_0_1 a1_0_2 a1_0_3 a1_0_4 a1_0_5 (fun _ => some (-1 : Int)) FUEL (0 : Int)
def g_ContainsFunc_Trade (a0 : (List MTrade)) (a1_0_0 : (List MAccount)) (a1_0_1 : (List MInstr)) (a1_0_2 : (List MBal)) (a1_0_3 : (List MLot)) (a1_0_4 : (List MTrade)) (a1_0_5 : Int) : Option Bool :=
    (Option.bind (g_IndexFunc_Trade a0 a1_0_0 a1_0_1 a1_0_2 a1_0_3 a1_0_4 a1_0_5) fun y1 => some (decide ((0 : Int) ≤ y1)))
def i_tradesRight (a0 : MBooks) : Option Bool :=
    (Option.bind (g_ContainsFunc_Trade a0.Trades a0.Accounts a0.Instrs a0.Bals a0.Lots a0.Trades a0.Lot) fun y1 => some (decide (¬ (y1 = true))))
def i_BooksOk (a0 : MBooks) : Option Bool :=
    (Option.bind (i_AccountsOk a0.Accounts) fun y1 => (if ¬ (y1 = true) then some false else (Option.bind (i_InstrsOk a0.Instrs) fun y4 => (if ¬ (y4 = true) then some false else (Option.bind (i_BalsOk a0.Bals) fun y7 => (if ¬ (y7 = true) then some false else (Option.bind (i_LotsOk a0.Lots) fun y10 => (if ¬ (y10 = true) then some false else (Option.bind (i_TradesOk a0.Trades) fun y13 => (if ¬ (y13 = true) then some false else (Option.bind (i_in a0.Lot (0 : Int) (1000000000 : Int)) fun y16 => (if ¬ (y16 = true) then some false else (Option.bind (i_balsRight a0) fun y19 => (if y19 = true then (Option.bind (i_lotsRight a0) fun y22 => (if y22 = true then (Option.bind (i_tradesRight a0) fun y25 => some y25) else some false)) else some false))))))))))))))
def i_BooksRead_L1 (a0 : (List UInt8)) (y1 : (Int × Int × Bool)) (k1_0 : Int × Bool × (List MAccount) → Option ((List MAccount) × (List MInstr) × (List MBal) × (List MLot) × (List MTrade) × Int × Bool)) : Nat → (Int × Bool × (List MAccount) × Int) → Option ((List MAccount) × (List MInstr) × (List MBal) × (List MLot) × (List MTrade) × Int × Bool)
  | 0, _ => none
  | n + 1, (v9, v10, v11, v12) =>
  (if v12 < y1.1 then (Option.bind (i_numReader_one a0 v9 v10) fun y14 => (Option.bind (i_numReader_one a0 y14.2.1 y14.2.2) fun y16 => (if (List.length (List.map MAccount.av v11) + List.length (List.map MAccount.av [(MAccount.mk y14.1 y16.1)])) * 16 ≤ 140737488355328 then i_BooksRead_L1 a0 y1 k1_0 n (y16.2.1, y16.2.2, (v11 ++ [(MAccount.mk y14.1 y16.1)]), w64 (v12 + (1 : Int))) else none))) else k1_0 (v9, v10, v11))
def i_BooksRead_L2 (a0 : (List UInt8)) (y22 : (Int × Int × Bool)) (k2_2 : Int × Bool × (List MInstr) → Option ((List MAccount) × (List MInstr) × (List MBal) × (List MLot) × (List MTrade) × Int × Bool)) : Nat → (Int × Bool × (List MInstr) × Int) → Option ((List MAccount) × (List MInstr) × (List MBal) × (List MLot) × (List MTrade) × Int × Bool)
  | 0, _ => none
  | n + 1, (v30, v31, v32, v33) =>
  (if v33 < y22.1 then (Option.bind (i_numReader_one a0 v30 v31) fun y35 => (Option.bind (i_numReader_one a0 y35.2.1 y35.2.2) fun y37 => (if (List.length (List.map MInstr.av v32) + List.length (List.map MInstr.av [(MInstr.mk y35.1 y37.1)])) * 16 ≤ 140737488355328 then i_BooksRead_L2 a0 y22 k2_2 n (y37.2.1, y37.2.2, (v32 ++ [(MInstr.mk y35.1 y37.1)]), w64 (v33 + (1 : Int))) else none))) else k2_2 (v30, v31, v32))
def i_BooksRead_L3 (a0 : (List UInt8)) (y43 : (Int × Int × Bool)) (k3_4 : Int × Bool × (List MBal) → Option ((List MAccount) × (List MInstr) × (List MBal) × (List MLot) × (List MTrade) × Int × Bool)) : Nat → (Int × Bool × (List MBal) × Int) → Option ((List MAccount) × (List MInstr) × (List MBal) × (List MLot) × (List MTrade) × Int × Bool)
  | 0, _ => none
  | n + 1, (v53, v54, v55, v56) =>
  (if v56 < y43.1 then (Option.bind (i_numReader_one a0 v53 v54) fun y58 => (Option.bind (i_numReader_one a0 y58.2.1 y58.2.2) fun y60 => (Option.bind (i_numReader_one a0 y60.2.1 y60.2.2) fun y62 => (if (List.length (List.map MBal.av v55) + List.length (List.map MBal.av [(MBal.mk y58.1 y60.1 (w64 (y62.1 - (1000000000000000 : Int))))])) * 24 ≤ 140737488355328 then i_BooksRead_L3 a0 y43 k3_4 n (y62.2.1, y62.2.2, (v55 ++ [(MBal.mk y58.1 y60.1 (w64 (y62.1 - (1000000000000000 : Int))))]), w64 (v56 + (1 : Int))) else none)))) else k3_4 (v53, v54, v55))
def i_BooksRead_L4 (a0 : (List UInt8)) (y68 : (Int × Int × Bool)) (k4_6 : Int × Bool × (List MLot) → Option ((List MAccount) × (List MInstr) × (List MBal) × (List MLot) × (List MTrade) × Int × Bool)) : Nat → (Int × Bool × (List MLot) × Int) → Option ((List MAccount) × (List MInstr) × (List MBal) × (List MLot) × (List MTrade) × Int × Bool)
  | 0, _ => none
  | n + 1, (v74, v75, v76, v77) =>
  (if v77 < y68.1 then (Option.bind (i_numReader_lot a0 v74 v75) fun y79 => (if (List.length (List.map MLot.av v76) + List.length (List.map MLot.av [(MLot.mk y79.1 y79.2.1 y79.2.2.1 y79.2.2.2.1 y79.2.2.2.2.1)])) * 40 ≤ 140737488355328 then i_BooksRead_L4 a0 y68 k4_6 n (y79.2.2.2.2.2.1, y79.2.2.2.2.2.2, (v76 ++ [(MLot.mk y79.1 y79.2.1 y79.2.2.1 y79.2.2.2.1 y79.2.2.2.2.1)]), w64 (v77 + (1 : Int))) else none)) else k4_6 (v74, v75, v76))
def i_BooksRead_L5 (a0 : (List UInt8)) (y85 : (Int × Int × Bool)) (k5_8 : Int × Bool × (List MTrade) → Option ((List MAccount) × (List MInstr) × (List MBal) × (List MLot) × (List MTrade) × Int × Bool)) : Nat → (Int × Bool × (List MTrade) × Int) → Option ((List MAccount) × (List MInstr) × (List MBal) × (List MLot) × (List MTrade) × Int × Bool)
  | 0, _ => none
  | n + 1, (v91, v92, v93, v94) =>
  (if v94 < y85.1 then (Option.bind (i_numReader_trade a0 v91 v92) fun y96 => (if (List.length (List.map MTrade.av v93) + List.length (List.map MTrade.av [(MTrade.mk y96.1 y96.2.1 y96.2.2.1 y96.2.2.2.1 y96.2.2.2.2.1 y96.2.2.2.2.2.1 y96.2.2.2.2.2.2.1 y96.2.2.2.2.2.2.2.1)])) * 64 ≤ 140737488355328 then i_BooksRead_L5 a0 y85 k5_8 n (y96.2.2.2.2.2.2.2.2.1, y96.2.2.2.2.2.2.2.2.2, (v93 ++ [(MTrade.mk y96.1 y96.2.1 y96.2.2.1 y96.2.2.2.1 y96.2.2.2.2.1 y96.2.2.2.2.2.1 y96.2.2.2.2.2.2.1 y96.2.2.2.2.2.2.2.1)]), w64 (v94 + (1 : Int))) else none)) else k5_8 (v91, v92, v93))
def i_BooksRead (a0 : (List UInt8)) : Option ((List MAccount) × (List MInstr) × (List MBal) × (List MLot) × (List MTrade) × Int × Bool) :=
    (Option.bind (i_numReader_many a0 (0 : Int) false (20 : Int)) fun y1 => i_BooksRead_L1 a0 y1 (fun (w19, w20, w21) => (Option.bind (i_numReader_many a0 w19 w20 (8 : Int)) fun y22 => i_BooksRead_L2 a0 y22 (fun (w40, w41, w42) => (Option.bind (i_numReader_many a0 w40 w41 (160 : Int)) fun y43 => i_BooksRead_L3 a0 y43 (fun (w65, w66, w67) => (Option.bind (i_numReader_many a0 w65 w66 (120 : Int)) fun y68 => i_BooksRead_L4 a0 y68 (fun (w82, w83, w84) => (Option.bind (i_numReader_many a0 w82 w83 (30 : Int)) fun y85 => i_BooksRead_L5 a0 y85 (fun (w99, w100, w101) => (Option.bind (i_numReader_one a0 w99 w100) fun y102 => (if y102.2.2 = true then some ([], [], [], [], [], (0 : Int), false) else (if y102.2.1 ≠ (ln (List.map u8 a0)) then some ([], [], [], [], [], (0 : Int), false) else (Option.bind (i_BooksOk (MBooks.mk w21 w42 w67 w84 w101 y102.1)) fun y106 => (if ¬ (y106 = true) then some ([], [], [], [], [], (0 : Int), false) else some (w21, w42, w67, w84, w101, y102.1, true))))))) FUEL (y85.2.1, y85.2.2, [], (0 : Int)))) FUEL (y68.2.1, y68.2.2, [], (0 : Int)))) FUEL (y43.2.1, y43.2.2, [], (0 : Int)))) FUEL (y22.2.1, y22.2.2, [], (0 : Int)))) FUEL (y1.2.1, y1.2.2, [], (0 : Int)))
def i_PutNums_c1 (a0 : Int) : Option Bool :=
    some (decide (a0 < (0 : Int)))
def g_IndexFunc_int_L1 (a0 : (List Int)) (k1_0 : Unit → Option Int) : Nat → Int → Option Int
  | 0, _ => none
  | n + 1, v8 =>
  (if v8 < (ln (List.map iv a0)) then (if 0 ≤ v8 then (Option.bind a0[(Int.toNat v8)]? fun x11 => (Option.bind (i_PutNums_c1 x11) fun y13 => (if y13 = true then some v8 else g_IndexFunc_int_L1 a0 k1_0 n (w64 (v8 + (1 : Int)))))) else none) else k1_0 ())
def g_IndexFunc_int (a0 : (List Int)) : Option Int :=
    g_IndexFunc_int_L1 a0 (fun _ => some (-1 : Int)) FUEL (0 : Int)
def g_ContainsFunc_int (a0 : (List Int)) : Option Bool :=
    (Option.bind (g_IndexFunc_int a0) fun y1 => some (decide ((0 : Int) ≤ y1)))
def i_PutNum_L1 (k1_0 : Int × (List UInt8) → Option (List UInt8)) : Nat → (Int × (List UInt8)) → Option (List UInt8)
  | 0, _ => none
  | n + 1, (v4, v5) =>
  (if (127 : Int) < v4 then (if (List.length (List.map u8 v5) + List.length (List.map u8 [(byteOf (bor .i64 (band .i64 v4 (127 : Int)) (128 : Int)))])) * 1 ≤ 140737488355328 then i_PutNum_L1 k1_0 n (Int.fdiv v4 (2 ^ (Int.toNat (7 : Int))), (v5 ++ [(byteOf (bor .i64 (band .i64 v4 (127 : Int)) (128 : Int)))])) else none) else k1_0 (v4, v5))
def i_PutNum (a0 : Int) : Option (List UInt8) :=
    (if a0 < (0 : Int) then some [] else i_PutNum_L1 (fun (w8, w9) => (if (List.length (List.map u8 w9) + List.length (List.map u8 [(byteOf w8)])) * 1 ≤ 140737488355328 then some (w9 ++ [(byteOf w8)]) else none)) FUEL (a0, ([] : List UInt8)))
def i_PutNums_L1 (a0 : (List Int)) (k1_0 : (List UInt8) → Option (List UInt8)) : Nat → ((List UInt8) × Int) → Option (List UInt8)
  | 0, _ => none
  | n + 1, (v11, v12) =>
  (if v12 < (ln (List.map iv a0)) then (if 0 ≤ v12 then (Option.bind a0[(Int.toNat v12)]? fun x15 => (Option.bind (i_PutNum x15) fun y17 => (if (List.length (List.map u8 v11) + List.length (List.map u8 y17)) * 1 ≤ 140737488355328 then i_PutNums_L1 a0 k1_0 n ((v11 ++ y17), w64 (v12 + (1 : Int))) else none))) else none) else k1_0 v11)
def i_PutNums (a0 : (List Int)) : Option (List UInt8) :=
    (Option.bind (g_ContainsFunc_int a0) fun y1 => (if y1 = true then some [] else i_PutNums_L1 a0 (fun w20 => some w20) FUEL (([] : List UInt8), (0 : Int))))
def i_BooksPack_L1 (a0 : MBooks) (k1_0 : (List Int) → Option ((List UInt8) × Bool)) : Nat → ((List Int) × Int) → Option ((List UInt8) × Bool)
  | 0, _ => none
  | n + 1, (v9, v10) =>
  (if v10 < (ln (List.map MAccount.av a0.Accounts)) then (if 0 ≤ v10 then (Option.bind a0.Accounts[(Int.toNat v10)]? fun x13 => (if (List.length (List.map iv v9) + List.length (List.map iv [x13.No, x13.Kind])) * 8 ≤ 140737488355328 then i_BooksPack_L1 a0 k1_0 n ((v9 ++ [x13.No, x13.Kind]), w64 (v10 + (1 : Int))) else none)) else none) else k1_0 v9)
def i_BooksPack_L2 (a0 : MBooks) (k2_2 : (List Int) → Option ((List UInt8) × Bool)) : Nat → ((List Int) × Int) → Option ((List UInt8) × Bool)
  | 0, _ => none
  | n + 1, (v23, v24) =>
  (if v24 < (ln (List.map MInstr.av a0.Instrs)) then (if 0 ≤ v24 then (Option.bind a0.Instrs[(Int.toNat v24)]? fun x27 => (if (List.length (List.map iv v23) + List.length (List.map iv [x27.No, x27.Kind])) * 8 ≤ 140737488355328 then i_BooksPack_L2 a0 k2_2 n ((v23 ++ [x27.No, x27.Kind]), w64 (v24 + (1 : Int))) else none)) else none) else k2_2 v23)
def i_BooksPack_L3 (a0 : MBooks) (k3_4 : (List Int) → Option ((List UInt8) × Bool)) : Nat → ((List Int) × Int) → Option ((List UInt8) × Bool)
  | 0, _ => none
  | n + 1, (v37, v38) =>
  (if v38 < (ln (List.map MBal.av a0.Bals)) then (if 0 ≤ v38 then (Option.bind a0.Bals[(Int.toNat v38)]? fun x41 => (if (List.length (List.map iv v37) + List.length (List.map iv [x41.Account, x41.Instr, w64 (x41.Amount + (1000000000000000 : Int))])) * 8 ≤ 140737488355328 then i_BooksPack_L3 a0 k3_4 n ((v37 ++ [x41.Account, x41.Instr, w64 (x41.Amount + (1000000000000000 : Int))]), w64 (v38 + (1 : Int))) else none)) else none) else k3_4 v37)
def i_BooksPack_L4 (a0 : MBooks) (k4_6 : (List Int) → Option ((List UInt8) × Bool)) : Nat → ((List Int) × Int) → Option ((List UInt8) × Bool)
  | 0, _ => none
  | n + 1, (v51, v52) =>
  (if v52 < (ln (List.map MLot.av a0.Lots)) then (if 0 ≤ v52 then (Option.bind a0.Lots[(Int.toNat v52)]? fun x55 => (if (List.length (List.map iv v51) + List.length (List.map iv [x55.Account, x55.Instr, x55.No, x55.Qty, x55.Cost])) * 8 ≤ 140737488355328 then i_BooksPack_L4 a0 k4_6 n ((v51 ++ [x55.Account, x55.Instr, x55.No, x55.Qty, x55.Cost]), w64 (v52 + (1 : Int))) else none)) else none) else k4_6 v51)
def i_BooksPack_L5 (a0 : MBooks) (k5_8 : (List Int) → Option ((List UInt8) × Bool)) : Nat → ((List Int) × Int) → Option ((List UInt8) × Bool)
  | 0, _ => none
  | n + 1, (v65, v66) =>
  (if v66 < (ln (List.map MTrade.av a0.Trades)) then (if 0 ≤ v66 then (Option.bind a0.Trades[(Int.toNat v66)]? fun x69 => (if (List.length (List.map iv v65) + List.length (List.map iv [x69.No, x69.Buyer, x69.Seller, x69.Paper, x69.Qty, x69.Cash, x69.Price, x69.State])) * 8 ≤ 140737488355328 then i_BooksPack_L5 a0 k5_8 n ((v65 ++ [x69.No, x69.Buyer, x69.Seller, x69.Paper, x69.Qty, x69.Cash, x69.Price, x69.State]), w64 (v66 + (1 : Int))) else none)) else none) else k5_8 v65)
def i_BooksPack (a0 : MBooks) : Option ((List UInt8) × Bool) :=
    (Option.bind (i_BooksOk a0) fun y1 => (if ¬ (y1 = true) then some ([], false) else i_BooksPack_L1 a0 (fun w16 => (if (List.length (List.map iv w16) + List.length (List.map iv [(ln (List.map MInstr.av a0.Instrs))])) * 8 ≤ 140737488355328 then i_BooksPack_L2 a0 (fun w30 => (if (List.length (List.map iv w30) + List.length (List.map iv [(ln (List.map MBal.av a0.Bals))])) * 8 ≤ 140737488355328 then i_BooksPack_L3 a0 (fun w44 => (if (List.length (List.map iv w44) + List.length (List.map iv [(ln (List.map MLot.av a0.Lots))])) * 8 ≤ 140737488355328 then i_BooksPack_L4 a0 (fun w58 => (if (List.length (List.map iv w58) + List.length (List.map iv [(ln (List.map MTrade.av a0.Trades))])) * 8 ≤ 140737488355328 then i_BooksPack_L5 a0 (fun w72 => (if (List.length (List.map iv w72) + List.length (List.map iv [a0.Lot])) * 8 ≤ 140737488355328 then (Option.bind (i_PutNums (w72 ++ [a0.Lot])) fun y74 => some (y74, true)) else none)) FUEL ((w58 ++ [(ln (List.map MTrade.av a0.Trades))]), (0 : Int)) else none)) FUEL ((w44 ++ [(ln (List.map MLot.av a0.Lots))]), (0 : Int)) else none)) FUEL ((w30 ++ [(ln (List.map MBal.av a0.Bals))]), (0 : Int)) else none)) FUEL ((w16 ++ [(ln (List.map MInstr.av a0.Instrs))]), (0 : Int)) else none)) FUEL ([(ln (List.map MAccount.av a0.Accounts))], (0 : Int))))
def g_Grow_byte (a1 : Int) : Option (List UInt8) :=
    (if a1 < (0 : Int) then none else (if (0 : Int) < w64 (a1 - (w64 ((0 : Int) - (ln ([] : List AV))))) then (if 0 ≤ (0 : Int) ∧ (0 : Int) ≤ ((0 : Nat) : Int) then (if 0 ≤ w64 (a1 - (w64 ((0 : Int) - (ln ([] : List AV))))) ∧ (w64 (a1 - (w64 ((0 : Int) - (ln ([] : List AV)))))) * 1 ≤ 140737488355328 then (if 0 ≤ (ln ([] : List AV)) ∧ (ln ([] : List AV)) ≤ (ln (List.map u8 (List.replicate (Int.toNat (w64 (a1 - (w64 ((0 : Int) - (ln ([] : List AV))))))) (0 : UInt8)))) then some (List.take ((Int.toNat (ln ([] : List AV))) - 0) (List.replicate (Int.toNat (w64 (a1 - (w64 ((0 : Int) - (ln ([] : List AV))))))) (0 : UInt8))) else none) else none) else none) else some []))
def g_Concat_byte_L1 (a0 : (List (List UInt8))) (k1_0 : Int → Option (List UInt8)) : Nat → (Int × Int) → Option (List UInt8)
  | 0, _ => none
  | n + 1, (v6, v7) =>
  (if v7 < (ln (List.map (sv 1 u8) a0)) then (if 0 ≤ v7 then (Option.bind a0[(Int.toNat v7)]? fun x10 => (if w64 (v6 + (ln (List.map u8 x10))) < (0 : Int) then none else g_Concat_byte_L1 a0 k1_0 n (w64 (v6 + (ln (List.map u8 x10))), w64 (v7 + (1 : Int))))) else none) else k1_0 v6)
def g_Concat_byte_L2 (a0 : (List (List UInt8))) (k2_2 : (List UInt8) → Option (List UInt8)) : Nat → ((List UInt8) × Int) → Option (List UInt8)
  | 0, _ => none
  | n + 1, (v21, v22) =>
  (if v22 < (ln (List.map (sv 1 u8) a0)) then (if 0 ≤ v22 then (Option.bind a0[(Int.toNat v22)]? fun x25 => (if (List.length (List.map u8 v21) + List.length (List.map u8 x25)) * 1 ≤ 140737488355328 then g_Concat_byte_L2 a0 k2_2 n ((v21 ++ x25), w64 (v22 + (1 : Int))) else none)) else none) else k2_2 v21)
def g_Concat_byte (a0 : (List (List UInt8))) : Option (List UInt8) :=
    g_Concat_byte_L1 a0 (fun w13 => (Option.bind (g_Grow_byte w13) fun y14 => g_Concat_byte_L2 a0 (fun w28 => some w28) FUEL (y14, (0 : Int)))) FUEL ((0 : Int), (0 : Int))
def i_Seal (a0 : (List UInt8)) : Option ((List UInt8) × Bool) :=
    (if (9000 : Int) < (ln (List.map u8 a0)) then some ([], false) else (Option.bind (i_PutNum (ln (List.map u8 a0))) fun y2 => (Option.bind (i_checkBytes a0) fun y4 => (Option.bind (g_Concat_byte [y2, a0, y4]) fun y6 => some (y6, true)))))
def i_SavePack (a0 : MSave) : Option ((List UInt8) × Bool) :=
    (Option.bind (i_BooksPack a0.Books) fun y1 => (if ¬ (y1.2 = true) then some (([] : List UInt8), false) else (Option.bind (i_isSeg a0.From) fun y4 => (if ¬ (y4 = true) then some (([] : List UInt8), false) else (Option.bind (i_PutNum a0.From) fun y7 => (if (List.length (List.map u8 y7) + List.length (List.map u8 y1.1)) * 1 ≤ 140737488355328 then (Option.bind (i_Seal (y7 ++ y1.1)) fun y10 => some (y10.1, y10.2)) else none))))))
def i_SaveLoad (a0 : MDisk) : Option (Int × (List MAccount) × (List MInstr) × (List MBal) × (List MLot) × (List MTrade) × Int × Bool) :=
    (Option.bind (i_DiskRead a0 (21 : Int)) fun y1 => (if ¬ (y1.2 = true) then some ((0 : Int), [], [], [], [], [], (0 : Int), false) else (Option.bind (i_Unseal y1.1 (0 : Int)) fun y4 => (if y4.2.2 ≠ (0 : Int) then some ((0 : Int), [], [], [], [], [], (0 : Int), false) else (if y4.2.1 ≠ (ln y1.1) then some ((0 : Int), [], [], [], [], [], (0 : Int), false) else (Option.bind (i_GetNum y4.1 (0 : Int)) fun y8 => (if ¬ (y8.2.2 = true) then some ((0 : Int), [], [], [], [], [], (0 : Int), false) else (Option.bind (i_isSeg y8.1) fun y11 => (if ¬ (y11 = true) then some ((0 : Int), [], [], [], [], [], (0 : Int), false) else (if 0 ≤ y8.2.1 ∧ y8.2.1 ≤ (ln (List.map u8 y4.1)) then (Option.bind (i_BooksRead (List.take ((List.length (List.map u8 y4.1)) - (Int.toNat y8.2.1)) (List.drop (Int.toNat y8.2.1) y4.1))) fun y15 => (Option.bind (i_SavePack (MSave.mk y8.1 (MBooks.mk y15.1 y15.2.1 y15.2.2.1 y15.2.2.2.1 y15.2.2.2.2.1 y15.2.2.2.2.2.1))) fun y17 => (if ¬ (y15.2.2.2.2.2.2 = true) then some ((0 : Int), [], [], [], [], [], (0 : Int), false) else (if y17.1 ≠ y1.1 then some ((0 : Int), [], [], [], [], [], (0 : Int), false) else some (y8.1, y15.1, y15.2.1, y15.2.2.1, y15.2.2.2.1, y15.2.2.2.2.1, y15.2.2.2.2.2.1, true))))) else none))))))))))
def l_eqAccount (a0 : MAccount) (a1 : MAccount) : Option Bool :=
    (if a0.No ≠ a1.No then some false else (if a0.Kind ≠ a1.Kind then some false else some true))
def l_eqAccountS_L1 (a0 : (List MAccount)) (a1 : (List MAccount)) (k1_0 : Unit → Option Bool) : Nat → Int → Option Bool
  | 0, _ => none
  | n + 1, v11 =>
  (if v11 < (ln (List.map MAccount.av a0)) then (if 0 ≤ v11 then (Option.bind a0[(Int.toNat v11)]? fun x14 => (Option.bind a1[(Int.toNat v11)]? fun x16 => (Option.bind (l_eqAccount x14 x16) fun y18 => (if ¬ (y18 = true) then some false else l_eqAccountS_L1 a0 a1 k1_0 n (w64 (v11 + (1 : Int))))))) else none) else k1_0 ())
def l_eqAccountS (a0 : (List MAccount)) (a1 : (List MAccount)) : Option Bool :=
    (if (ln (List.map MAccount.av a0)) ≠ (ln (List.map MAccount.av a1)) then some false else l_eqAccountS_L1 a0 a1 (fun _ => some true) FUEL (0 : Int))
def l_eqInstr (a0 : MInstr) (a1 : MInstr) : Option Bool :=
    (if a0.No ≠ a1.No then some false else (if a0.Kind ≠ a1.Kind then some false else some true))
def l_eqInstrS_L1 (a0 : (List MInstr)) (a1 : (List MInstr)) (k1_0 : Unit → Option Bool) : Nat → Int → Option Bool
  | 0, _ => none
  | n + 1, v11 =>
  (if v11 < (ln (List.map MInstr.av a0)) then (if 0 ≤ v11 then (Option.bind a0[(Int.toNat v11)]? fun x14 => (Option.bind a1[(Int.toNat v11)]? fun x16 => (Option.bind (l_eqInstr x14 x16) fun y18 => (if ¬ (y18 = true) then some false else l_eqInstrS_L1 a0 a1 k1_0 n (w64 (v11 + (1 : Int))))))) else none) else k1_0 ())
def l_eqInstrS (a0 : (List MInstr)) (a1 : (List MInstr)) : Option Bool :=
    (if (ln (List.map MInstr.av a0)) ≠ (ln (List.map MInstr.av a1)) then some false else l_eqInstrS_L1 a0 a1 (fun _ => some true) FUEL (0 : Int))
def l_eqBal (a0 : MBal) (a1 : MBal) : Option Bool :=
    (if a0.Account ≠ a1.Account then some false else (if a0.Instr ≠ a1.Instr then some false else (if a0.Amount ≠ a1.Amount then some false else some true)))
def l_eqBalS_L1 (a0 : (List MBal)) (a1 : (List MBal)) (k1_0 : Unit → Option Bool) : Nat → Int → Option Bool
  | 0, _ => none
  | n + 1, v11 =>
  (if v11 < (ln (List.map MBal.av a0)) then (if 0 ≤ v11 then (Option.bind a0[(Int.toNat v11)]? fun x14 => (Option.bind a1[(Int.toNat v11)]? fun x16 => (Option.bind (l_eqBal x14 x16) fun y18 => (if ¬ (y18 = true) then some false else l_eqBalS_L1 a0 a1 k1_0 n (w64 (v11 + (1 : Int))))))) else none) else k1_0 ())
def l_eqBalS (a0 : (List MBal)) (a1 : (List MBal)) : Option Bool :=
    (if (ln (List.map MBal.av a0)) ≠ (ln (List.map MBal.av a1)) then some false else l_eqBalS_L1 a0 a1 (fun _ => some true) FUEL (0 : Int))
def l_eqLot (a0 : MLot) (a1 : MLot) : Option Bool :=
    (if a0.Account ≠ a1.Account then some false else (if a0.Instr ≠ a1.Instr then some false else (if a0.No ≠ a1.No then some false else (if a0.Qty ≠ a1.Qty then some false else (if a0.Cost ≠ a1.Cost then some false else some true)))))
def l_eqLotS_L1 (a0 : (List MLot)) (a1 : (List MLot)) (k1_0 : Unit → Option Bool) : Nat → Int → Option Bool
  | 0, _ => none
  | n + 1, v11 =>
  (if v11 < (ln (List.map MLot.av a0)) then (if 0 ≤ v11 then (Option.bind a0[(Int.toNat v11)]? fun x14 => (Option.bind a1[(Int.toNat v11)]? fun x16 => (Option.bind (l_eqLot x14 x16) fun y18 => (if ¬ (y18 = true) then some false else l_eqLotS_L1 a0 a1 k1_0 n (w64 (v11 + (1 : Int))))))) else none) else k1_0 ())
def l_eqLotS (a0 : (List MLot)) (a1 : (List MLot)) : Option Bool :=
    (if (ln (List.map MLot.av a0)) ≠ (ln (List.map MLot.av a1)) then some false else l_eqLotS_L1 a0 a1 (fun _ => some true) FUEL (0 : Int))
def l_eqTrade (a0 : MTrade) (a1 : MTrade) : Option Bool :=
    (if a0.No ≠ a1.No then some false else (if a0.Buyer ≠ a1.Buyer then some false else (if a0.Seller ≠ a1.Seller then some false else (if a0.Paper ≠ a1.Paper then some false else (if a0.Qty ≠ a1.Qty then some false else (if a0.Cash ≠ a1.Cash then some false else (if a0.Price ≠ a1.Price then some false else (if a0.State ≠ a1.State then some false else some true))))))))
def l_eqTradeS_L1 (a0 : (List MTrade)) (a1 : (List MTrade)) (k1_0 : Unit → Option Bool) : Nat → Int → Option Bool
  | 0, _ => none
  | n + 1, v11 =>
  (if v11 < (ln (List.map MTrade.av a0)) then (if 0 ≤ v11 then (Option.bind a0[(Int.toNat v11)]? fun x14 => (Option.bind a1[(Int.toNat v11)]? fun x16 => (Option.bind (l_eqTrade x14 x16) fun y18 => (if ¬ (y18 = true) then some false else l_eqTradeS_L1 a0 a1 k1_0 n (w64 (v11 + (1 : Int))))))) else none) else k1_0 ())
def l_eqTradeS (a0 : (List MTrade)) (a1 : (List MTrade)) : Option Bool :=
    (if (ln (List.map MTrade.av a0)) ≠ (ln (List.map MTrade.av a1)) then some false else l_eqTradeS_L1 a0 a1 (fun _ => some true) FUEL (0 : Int))
def l_eqBooks (a0 : MBooks) (a1 : MBooks) : Option Bool :=
    (Option.bind (l_eqAccountS a0.Accounts a1.Accounts) fun y1 => (if ¬ (y1 = true) then some false else (Option.bind (l_eqInstrS a0.Instrs a1.Instrs) fun y4 => (if ¬ (y4 = true) then some false else (Option.bind (l_eqBalS a0.Bals a1.Bals) fun y7 => (if ¬ (y7 = true) then some false else (Option.bind (l_eqLotS a0.Lots a1.Lots) fun y10 => (if ¬ (y10 = true) then some false else (Option.bind (l_eqTradeS a0.Trades a1.Trades) fun y13 => (if ¬ (y13 = true) then some false else (if a0.Lot ≠ a1.Lot then some false else some true)))))))))))
def l_eqSave (a0 : MSave) (a1 : MSave) : Option Bool :=
    (if a0.From ≠ a1.From then some false else (Option.bind (l_eqBooks a0.Books a1.Books) fun y2 => (if ¬ (y2 = true) then some false else some true)))
def l_eqFile (a0 : MFile) (a1 : MFile) : Option Bool :=
    (if a0.Name ≠ a1.Name then some false else (if a0.Safe ≠ a1.Safe then some false else (if a0.Late ≠ a1.Late then some false else some true)))
def l_eqFileS_L1 (a0 : (List MFile)) (a1 : (List MFile)) (k1_0 : Unit → Option Bool) : Nat → Int → Option Bool
  | 0, _ => none
  | n + 1, v11 =>
  (if v11 < (ln (List.map MFile.av a0)) then (if 0 ≤ v11 then (Option.bind a0[(Int.toNat v11)]? fun x14 => (Option.bind a1[(Int.toNat v11)]? fun x16 => (Option.bind (l_eqFile x14 x16) fun y18 => (if ¬ (y18 = true) then some false else l_eqFileS_L1 a0 a1 k1_0 n (w64 (v11 + (1 : Int))))))) else none) else k1_0 ())
def l_eqFileS (a0 : (List MFile)) (a1 : (List MFile)) : Option Bool :=
    (if (ln (List.map MFile.av a0)) ≠ (ln (List.map MFile.av a1)) then some false else l_eqFileS_L1 a0 a1 (fun _ => some true) FUEL (0 : Int))
def l_eqDisk (a0 : MDisk) (a1 : MDisk) : Option Bool :=
    (if a0.Room ≠ a1.Room then some false else (Option.bind (l_eqFileS a0.Files a1.Files) fun y2 => (if ¬ (y2 = true) then some false else some true)))
def l_markText_L1 (k1_0 : (List UInt8) → Option (List UInt8)) : Nat → (Int × (List UInt8)) → Option (List UInt8)
  | 0, _ => none
  | n + 1, (v4, v5) =>
  (if (0 : Int) < v4 then (if List.length [(byteOf (w64 ((48 : Int) + (Int.tmod v4 (10 : Int)))))] + List.length v5 ≤ maxLen then l_markText_L1 k1_0 n (w64 (Int.tdiv v4 (10 : Int)), ([(byteOf (w64 ((48 : Int) + (Int.tmod v4 (10 : Int)))))] ++ v5)) else none) else k1_0 v5)
def l_markText (a0 : Int) : Option (List UInt8) :=
    (if a0 ≤ (0 : Int) then some ([109, 48] : List UInt8) else l_markText_L1 (fun w8 => (if List.length ([109] : List UInt8) + List.length w8 ≤ maxLen then some (([109] : List UInt8) ++ w8) else none)) FUEL (a0, ([] : List UInt8)))
def l_markFileS_L1 (k1_0 : (List MFile) × Int → Option (Int × (List MFile))) : Nat → ((List MFile) × Int × Int) → Option (Int × (List MFile))
  | 0, _ => none
  | n + 1, (v15, v16, v17) =>
  (if v17 < (ln (List.map MFile.av v15)) then (if 0 ≤ v17 ∧ v17 < (ln (List.map MFile.av v15)) then (Option.bind v15[(Int.toNat v17)]? fun x20 => (Option.bind (l_markText (w64 (v16 + (1 : Int)))) fun y22 => (if 0 ≤ v17 ∧ v17 < (ln (List.map MFile.av (List.set v15 (Int.toNat v17) (MFile.mk v16 x20.Safe x20.Late)))) then (Option.bind (List.set v15 (Int.toNat v17) (MFile.mk v16 x20.Safe x20.Late))[(Int.toNat v17)]? fun x25 => (Option.bind (l_markText (w64 ((w64 (v16 + (1 : Int))) + (1 : Int)))) fun y27 => (if 0 ≤ v17 ∧ v17 < (ln (List.map MFile.av (List.set (List.set v15 (Int.toNat v17) (MFile.mk v16 x20.Safe x20.Late)) (Int.toNat v17) (MFile.mk x25.Name y22 x25.Late)))) then (Option.bind (List.set (List.set v15 (Int.toNat v17) (MFile.mk v16 x20.Safe x20.Late)) (Int.toNat v17) (MFile.mk x25.Name y22 x25.Late))[(Int.toNat v17)]? fun x30 => l_markFileS_L1 k1_0 n ((List.set (List.set (List.set v15 (Int.toNat v17) (MFile.mk v16 x20.Safe x20.Late)) (Int.toNat v17) (MFile.mk x25.Name y22 x25.Late)) (Int.toNat v17) (MFile.mk x30.Name x30.Safe y27)), w64 ((w64 ((w64 (v16 + (1 : Int))) + (1 : Int))) + (1 : Int)), w64 (v17 + (1 : Int)))) else none))) else none))) else none) else k1_0 (v15, v16))
def l_markFileS (a0 : (List MFile)) (a1 : Int) : Option (Int × (List MFile)) :=
    l_markFileS_L1 (fun (w32, w33) => some (w33, w32)) FUEL (a0, a1, (0 : Int))
def l_markDisk (a0_0 : Int) (a0_1 : (List MFile)) (a1 : Int) : Option (Int × (List MFile)) :=
    (Option.bind (l_markFileS a0_1 a1) fun y1 => some (y1.1, y1.2))
def l_markAccountS_L1 (k1_0 : (List MAccount) × Int → Option (Int × (List MAccount))) : Nat → ((List MAccount) × Int × Int) → Option (Int × (List MAccount))
  | 0, _ => none
  | n + 1, (v8, v9, v10) =>
  (if v10 < (ln (List.map MAccount.av v8)) then (if 0 ≤ v10 ∧ v10 < (ln (List.map MAccount.av v8)) then (Option.bind v8[(Int.toNat v10)]? fun x13 => (if 0 ≤ v10 ∧ v10 < (ln (List.map MAccount.av (List.set v8 (Int.toNat v10) (MAccount.mk v9 x13.Kind)))) then (Option.bind (List.set v8 (Int.toNat v10) (MAccount.mk v9 x13.Kind))[(Int.toNat v10)]? fun x16 => l_markAccountS_L1 k1_0 n ((List.set (List.set v8 (Int.toNat v10) (MAccount.mk v9 x13.Kind)) (Int.toNat v10) (MAccount.mk x16.No (w64 (v9 + (1 : Int))))), w64 ((w64 (v9 + (1 : Int))) + (1 : Int)), w64 (v10 + (1 : Int)))) else none)) else none) else k1_0 (v8, v9))
def l_markAccountS (a0 : (List MAccount)) (a1 : Int) : Option (Int × (List MAccount)) :=
    l_markAccountS_L1 (fun (w18, w19) => some (w19, w18)) FUEL (a0, a1, (0 : Int))
def l_markInstrS_L1 (k1_0 : (List MInstr) × Int → Option (Int × (List MInstr))) : Nat → ((List MInstr) × Int × Int) → Option (Int × (List MInstr))
  | 0, _ => none
  | n + 1, (v8, v9, v10) =>
  (if v10 < (ln (List.map MInstr.av v8)) then (if 0 ≤ v10 ∧ v10 < (ln (List.map MInstr.av v8)) then (Option.bind v8[(Int.toNat v10)]? fun x13 => (if 0 ≤ v10 ∧ v10 < (ln (List.map MInstr.av (List.set v8 (Int.toNat v10) (MInstr.mk v9 x13.Kind)))) then (Option.bind (List.set v8 (Int.toNat v10) (MInstr.mk v9 x13.Kind))[(Int.toNat v10)]? fun x16 => l_markInstrS_L1 k1_0 n ((List.set (List.set v8 (Int.toNat v10) (MInstr.mk v9 x13.Kind)) (Int.toNat v10) (MInstr.mk x16.No (w64 (v9 + (1 : Int))))), w64 ((w64 (v9 + (1 : Int))) + (1 : Int)), w64 (v10 + (1 : Int)))) else none)) else none) else k1_0 (v8, v9))
def l_markInstrS (a0 : (List MInstr)) (a1 : Int) : Option (Int × (List MInstr)) :=
    l_markInstrS_L1 (fun (w18, w19) => some (w19, w18)) FUEL (a0, a1, (0 : Int))
def l_markBalS_L1 (k1_0 : (List MBal) × Int → Option (Int × (List MBal))) : Nat → ((List MBal) × Int × Int) → Option (Int × (List MBal))
  | 0, _ => none
  | n + 1, (v11, v12, v13) =>
  (if v13 < (ln (List.map MBal.av v11)) then (if 0 ≤ v13 ∧ v13 < (ln (List.map MBal.av v11)) then (Option.bind v11[(Int.toNat v13)]? fun x16 => (if 0 ≤ v13 ∧ v13 < (ln (List.map MBal.av (List.set v11 (Int.toNat v13) (MBal.mk v12 x16.Instr x16.Amount)))) then (Option.bind (List.set v11 (Int.toNat v13) (MBal.mk v12 x16.Instr x16.Amount))[(Int.toNat v13)]? fun x19 => (if 0 ≤ v13 ∧ v13 < (ln (List.map MBal.av (List.set (List.set v11 (Int.toNat v13) (MBal.mk v12 x16.Instr x16.Amount)) (Int.toNat v13) (MBal.mk x19.Account (w64 (v12 + (1 : Int))) x19.Amount)))) then (Option.bind (List.set (List.set v11 (Int.toNat v13) (MBal.mk v12 x16.Instr x16.Amount)) (Int.toNat v13) (MBal.mk x19.Account (w64 (v12 + (1 : Int))) x19.Amount))[(Int.toNat v13)]? fun x22 => l_markBalS_L1 k1_0 n ((List.set (List.set (List.set v11 (Int.toNat v13) (MBal.mk v12 x16.Instr x16.Amount)) (Int.toNat v13) (MBal.mk x19.Account (w64 (v12 + (1 : Int))) x19.Amount)) (Int.toNat v13) (MBal.mk x22.Account x22.Instr (w64 ((w64 (v12 + (1 : Int))) + (1 : Int))))), w64 ((w64 ((w64 (v12 + (1 : Int))) + (1 : Int))) + (1 : Int)), w64 (v13 + (1 : Int)))) else none)) else none)) else none) else k1_0 (v11, v12))
def l_markBalS (a0 : (List MBal)) (a1 : Int) : Option (Int × (List MBal)) :=
    l_markBalS_L1 (fun (w24, w25) => some (w25, w24)) FUEL (a0, a1, (0 : Int))
def l_markLotS_L1 (k1_0 : (List MLot) × Int → Option (Int × (List MLot))) : Nat → ((List MLot) × Int × Int) → Option (Int × (List MLot))
  | 0, _ => none
  | n + 1, (v17, v18, v19) =>
  (if v19 < (ln (List.map MLot.av v17)) then (if 0 ≤ v19 ∧ v19 < (ln (List.map MLot.av v17)) then (Option.bind v17[(Int.toNat v19)]? fun x22 => (if 0 ≤ v19 ∧ v19 < (ln (List.map MLot.av (List.set v17 (Int.toNat v19) (MLot.mk v18 x22.Instr x22.No x22.Qty x22.Cost)))) then (Option.bind (List.set v17 (Int.toNat v19) (MLot.mk v18 x22.Instr x22.No x22.Qty x22.Cost))[(Int.toNat v19)]? fun x25 => (if 0 ≤ v19 ∧ v19 < (ln (List.map MLot.av (List.set (List.set v17 (Int.toNat v19) (MLot.mk v18 x22.Instr x22.No x22.Qty x22.Cost)) (Int.toNat v19) (MLot.mk x25.Account (w64 (v18 + (1 : Int))) x25.No x25.Qty x25.Cost)))) then (Option.bind (List.set (List.set v17 (Int.toNat v19) (MLot.mk v18 x22.Instr x22.No x22.Qty x22.Cost)) (Int.toNat v19) (MLot.mk x25.Account (w64 (v18 + (1 : Int))) x25.No x25.Qty x25.Cost))[(Int.toNat v19)]? fun x28 => (if 0 ≤ v19 ∧ v19 < (ln (List.map MLot.av (List.set (List.set (List.set v17 (Int.toNat v19) (MLot.mk v18 x22.Instr x22.No x22.Qty x22.Cost)) (Int.toNat v19) (MLot.mk x25.Account (w64 (v18 + (1 : Int))) x25.No x25.Qty x25.Cost)) (Int.toNat v19) (MLot.mk x28.Account x28.Instr (w64 ((w64 (v18 + (1 : Int))) + (1 : Int))) x28.Qty x28.Cost)))) then (Option.bind (List.set (List.set (List.set v17 (Int.toNat v19) (MLot.mk v18 x22.Instr x22.No x22.Qty x22.Cost)) (Int.toNat v19) (MLot.mk x25.Account (w64 (v18 + (1 : Int))) x25.No x25.Qty x25.Cost)) (Int.toNat v19) (MLot.mk x28.Account x28.Instr (w64 ((w64 (v18 + (1 : Int))) + (1 : Int))) x28.Qty x28.Cost))[(Int.toNat v19)]? fun x31 => (if 0 ≤ v19 ∧ v19 < (ln (List.map MLot.av (List.set (List.set (List.set (List.set v17 (Int.toNat v19) (MLot.mk v18 x22.Instr x22.No x22.Qty x22.Cost)) (Int.toNat v19) (MLot.mk x25.Account (w64 (v18 + (1 : Int))) x25.No x25.Qty x25.Cost)) (Int.toNat v19) (MLot.mk x28.Account x28.Instr (w64 ((w64 (v18 + (1 : Int))) + (1 : Int))) x28.Qty x28.Cost)) (Int.toNat v19) (MLot.mk x31.Account x31.Instr x31.No (w64 ((w64 ((w64 (v18 + (1 : Int))) + (1 : Int))) + (1 : Int))) x31.Cost)))) then (Option.bind (List.set (List.set (List.set (List.set v17 (Int.toNat v19) (MLot.mk v18 x22.Instr x22.No x22.Qty x22.Cost)) (Int.toNat v19) (MLot.mk x25.Account (w64 (v18 + (1 : Int))) x25.No x25.Qty x25.Cost)) (Int.toNat v19) (MLot.mk x28.Account x28.Instr (w64 ((w64 (v18 + (1 : Int))) + (1 : Int))) x28.Qty x28.Cost)) (Int.toNat v19) (MLot.mk x31.Account x31.Instr x31.No (w64 ((w64 ((w64 (v18 + (1 : Int))) + (1 : Int))) + (1 : Int))) x31.Cost))[(Int.toNat v19)]? fun x34 => l_markLotS_L1 k1_0 n ((List.set (List.set (List.set (List.set (List.set v17 (Int.toNat v19) (MLot.mk v18 x22.Instr x22.No x22.Qty x22.Cost)) (Int.toNat v19) (MLot.mk x25.Account (w64 (v18 + (1 : Int))) x25.No x25.Qty x25.Cost)) (Int.toNat v19) (MLot.mk x28.Account x28.Instr (w64 ((w64 (v18 + (1 : Int))) + (1 : Int))) x28.Qty x28.Cost)) (Int.toNat v19) (MLot.mk x31.Account x31.Instr x31.No (w64 ((w64 ((w64 (v18 + (1 : Int))) + (1 : Int))) + (1 : Int))) x31.Cost)) (Int.toNat v19) (MLot.mk x34.Account x34.Instr x34.No x34.Qty (w64 ((w64 ((w64 ((w64 (v18 + (1 : Int))) + (1 : Int))) + (1 : Int))) + (1 : Int))))), w64 ((w64 ((w64 ((w64 ((w64 (v18 + (1 : Int))) + (1 : Int))) + (1 : Int))) + (1 : Int))) + (1 : Int)), w64 (v19 + (1 : Int)))) else none)) else none)) else none)) else none)) else none) else k1_0 (v17, v18))
def l_markLotS (a0 : (List MLot)) (a1 : Int) : Option (Int × (List MLot)) :=
    l_markLotS_L1 (fun (w36, w37) => some (w37, w36)) FUEL (a0, a1, (0 : Int))
def l_markTradeS_L1 (k1_0 : (List MTrade) × Int → Option (Int × (List MTrade))) : Nat → ((List MTrade) × Int × Int) → Option (Int × (List MTrade))
  | 0, _ => none
  | n + 1, (v26, v27, v28) =>
  (if v28 < (ln (List.map MTrade.av v26)) then (if 0 ≤ v28 ∧ v28 < (ln (List.map MTrade.av v26)) then (Option.bind v26[(Int.toNat v28)]? fun x31 => (if 0 ≤ v28 ∧ v28 < (ln (List.map MTrade.av (List.set v26 (Int.toNat v28) (MTrade.mk v27 x31.Buyer x31.Seller x31.Paper x31.Qty x31.Cash x31.Price x31.State)))) then (Option.bind (List.set v26 (Int.toNat v28) (MTrade.mk v27 x31.Buyer x31.Seller x31.Paper x31.Qty x31.Cash x31.Price x31.State))[(Int.toNat v28)]? fun x34 => (if 0 ≤ v28 ∧ v28 < (ln (List.map MTrade.av (List.set (List.set v26 (Int.toNat v28) (MTrade.mk v27 x31.Buyer x31.Seller x31.Paper x31.Qty x31.Cash x31.Price x31.State)) (Int.toNat v28) (MTrade.mk x34.No (w64 (v27 + (1 : Int))) x34.Seller x34.Paper x34.Qty x34.Cash x34.Price x34.State)))) then (Option.bind (List.set (List.set v26 (Int.toNat v28) (MTrade.mk v27 x31.Buyer x31.Seller x31.Paper x31.Qty x31.Cash x31.Price x31.State)) (Int.toNat v28) (MTrade.mk x34.No (w64 (v27 + (1 : Int))) x34.Seller x34.Paper x34.Qty x34.Cash x34.Price x34.State))[(Int.toNat v28)]? fun x37 => (if 0 ≤ v28 ∧ v28 < (ln (List.map MTrade.av (List.set (List.set (List.set v26 (Int.toNat v28) (MTrade.mk v27 x31.Buyer x31.Seller x31.Paper x31.Qty x31.Cash x31.Price x31.State)) (Int.toNat v28) (MTrade.mk x34.No (w64 (v27 + (1 : Int))) x34.Seller x34.Paper x34.Qty x34.Cash x34.Price x34.State)) (Int.toNat v28) (MTrade.mk x37.No x37.Buyer (w64 ((w64 (v27 + (1 : Int))) + (1 : Int))) x37.Paper x37.Qty x37.Cash x37.Price x37.State)))) then (Option.bind (List.set (List.set (List.set v26 (Int.toNat v28) (MTrade.mk v27 x31.Buyer x31.Seller x31.Paper x31.Qty x31.Cash x31.Price x31.State)) (Int.toNat v28) (MTrade.mk x34.No (w64 (v27 + (1 : Int))) x34.Seller x34.Paper x34.Qty x34.Cash x34.Price x34.State)) (Int.toNat v28) (MTrade.mk x37.No x37.Buyer (w64 ((w64 (v27 + (1 : Int))) + (1 : Int))) x37.Paper x37.Qty x37.Cash x37.Price x37.State))[(Int.toNat v28)]? fun x40 => (if 0 ≤ v28 ∧ v28 < (ln (List.map MTrade.av (List.set (List.set (List.set (List.set v26 (Int.toNat v28) (MTrade.mk v27 x31.Buyer x31.Seller x31.Paper x31.Qty x31.Cash x31.Price x31.State)) (Int.toNat v28) (MTrade.mk x34.No (w64 (v27 + (1 : Int))) x34.Seller x34.Paper x34.Qty x34.Cash x34.Price x34.State)) (Int.toNat v28) (MTrade.mk x37.No x37.Buyer (w64 ((w64 (v27 + (1 : Int))) + (1 : Int))) x37.Paper x37.Qty x37.Cash x37.Price x37.State)) (Int.toNat v28) (MTrade.mk x40.No x40.Buyer x40.Seller (w64 ((w64 ((w64 (v27 + (1 : Int))) + (1 : Int))) + (1 : Int))) x40.Qty x40.Cash x40.Price x40.State)))) then (Option.bind (List.set (List.set (List.set (List.set v26 (Int.toNat v28) (MTrade.mk v27 x31.Buyer x31.Seller x31.Paper x31.Qty x31.Cash x31.Price x31.State)) (Int.toNat v28) (MTrade.mk x34.No (w64 (v27 + (1 : Int))) x34.Seller x34.Paper x34.Qty x34.Cash x34.Price x34.State)) (Int.toNat v28) (MTrade.mk x37.No x37.Buyer (w64 ((w64 (v27 + (1 : Int))) + (1 : Int))) x37.Paper x37.Qty x37.Cash x37.Price x37.State)) (Int.toNat v28) (MTrade.mk x40.No x40.Buyer x40.Seller (w64 ((w64 ((w64 (v27 + (1 : Int))) + (1 : Int))) + (1 : Int))) x40.Qty x40.Cash x40.Price x40.State))[(Int.toNat v28)]? fun x43 => (if 0 ≤ v28 ∧ v28 < (ln (List.map MTrade.av (List.set (List.set (List.set (List.set (List.set v26 (Int.toNat v28) (MTrade.mk v27 x31.Buyer x31.Seller x31.Paper x31.Qty x31.Cash x31.Price x31.State)) (Int.toNat v28) (MTrade.mk x34.No (w64 (v27 + (1 : Int))) x34.Seller x34.Paper x34.Qty x34.Cash x34.Price x34.State)) (Int.toNat v28) (MTrade.mk x37.No x37.Buyer (w64 ((w64 (v27 + (1 : Int))) + (1 : Int))) x37.Paper x37.Qty x37.Cash x37.Price x37.State)) (Int.toNat v28) (MTrade.mk x40.No x40.Buyer x40.Seller (w64 ((w64 ((w64 (v27 + (1 : Int))) + (1 : Int))) + (1 : Int))) x40.Qty x40.Cash x40.Price x40.State)) (Int.toNat v28) (MTrade.mk x43.No x43.Buyer x43.Seller x43.Paper (w64 ((w64 ((w64 ((w64 (v27 + (1 : Int))) + (1 : Int))) + (1 : Int))) + (1 : Int))) x43.Cash x43.Price x43.State)))) then (Option.bind (List.set (List.set (List.set (List.set (List.set v26 (Int.toNat v28) (MTrade.mk v27 x31.Buyer x31.Seller x31.Paper x31.Qty x31.Cash x31.Price x31.State)) (Int.toNat v28) (MTrade.mk x34.No (w64 (v27 + (1 : Int))) x34.Seller x34.Paper x34.Qty x34.Cash x34.Price x34.State)) (Int.toNat v28) (MTrade.mk x37.No x37.Buyer (w64 ((w64 (v27 + (1 : Int))) + (1 : Int))) x37.Paper x37.Qty x37.Cash x37.Price x37.State)) (Int.toNat v28) (MTrade.mk x40.No x40.Buyer x40.Seller (w64 ((w64 ((w64 (v27 + (1 : Int))) + (1 : Int))) + (1 : Int))) x40.Qty x40.Cash x40.Price x40.State)) (Int.toNat v28) (MTrade.mk x43.No x43.Buyer x43.Seller x43.Paper (w64 ((w64 ((w64 ((w64 (v27 + (1 : Int))) + (1 : Int))) + (1 : Int))) + (1 : Int))) x43.Cash x43.Price x43.State))[(Int.toNat v28)]? fun x46 => (if 0 ≤ v28 ∧ v28 < (ln (List.map MTrade.av (List.set (List.set (List.set (List.set (List.set (List.set v26 (Int.toNat v28) (MTrade.mk v27 x31.Buyer x31.Seller x31.Paper x31.Qty x31.Cash x31.Price x31.State)) (Int.toNat v28) (MTrade.mk x34.No (w64 (v27 + (1 : Int))) x34.Seller x34.Paper x34.Qty x34.Cash x34.Price x34.State)) (Int.toNat v28) (MTrade.mk x37.No x37.Buyer (w64 ((w64 (v27 + (1 : Int))) + (1 : Int))) x37.Paper x37.Qty x37.Cash x37.Price x37.State)) (Int.toNat v28) (MTrade.mk x40.No x40.Buyer x40.Seller (w64 ((w64 ((w64 (v27 + (1 : Int))) + (1 : Int))) + (1 : Int))) x40.Qty x40.Cash x40.Price x40.State)) (Int.toNat v28) (MTrade.mk x43.No x43.Buyer x43.Seller x43.Paper (w64 ((w64 ((w64 ((w64 (v27 + (1 : Int))) + (1 : Int))) + (1 : Int))) + (1 : Int))) x43.Cash x43.Price x43.State)) (Int.toNat v28) (MTrade.mk x46.No x46.Buyer x46.Seller x46.Paper x46.Qty (w64 ((w64 ((w64 ((w64 ((w64 (v27 + (1 : Int))) + (1 : Int))) + (1 : Int))) + (1 : Int))) + (1 : Int))) x46.Price x46.State)))) then (Option.bind (List.set (List.set (List.set (List.set (List.set (List.set v26 (Int.toNat v28) (MTrade.mk v27 x31.Buyer x31.Seller x31.Paper x31.Qty x31.Cash x31.Price x31.State)) (Int.toNat v28) (MTrade.mk x34.No (w64 (v27 + (1 : Int))) x34.Seller x34.Paper x34.Qty x34.Cash x34.Price x34.State)) (Int.toNat v28) (MTrade.mk x37.No x37.Buyer (w64 ((w64 (v27 + (1 : Int))) + (1 : Int))) x37.Paper x37.Qty x37.Cash x37.Price x37.State)) (Int.toNat v28) (MTrade.mk x40.No x40.Buyer x40.Seller (w64 ((w64 ((w64 (v27 + (1 : Int))) + (1 : Int))) + (1 : Int))) x40.Qty x40.Cash x40.Price x40.State)) (Int.toNat v28) (MTrade.mk x43.No x43.Buyer x43.Seller x43.Paper (w64 ((w64 ((w64 ((w64 (v27 + (1 : Int))) + (1 : Int))) + (1 : Int))) + (1 : Int))) x43.Cash x43.Price x43.State)) (Int.toNat v28) (MTrade.mk x46.No x46.Buyer x46.Seller x46.Paper x46.Qty (w64 ((w64 ((w64 ((w64 ((w64 (v27 + (1 : Int))) + (1 : Int))) + (1 : Int))) + (1 : Int))) + (1 : Int))) x46.Price x46.State))[(Int.toNat v28)]? fun x49 => (if 0 ≤ v28 ∧ v28 < (ln (List.map MTrade.av (List.set (List.set (List.set (List.set (List.set (List.set (List.set v26 (Int.toNat v28) (MTrade.mk v27 x31.Buyer x31.Seller x31.Paper x31.Qty x31.Cash x31.Price x31.State)) (Int.toNat v28) (MTrade.mk x34.No (w64 (v27 + (1 : Int))) x34.Seller x34.Paper x34.Qty x34.Cash x34.Price x34.State)) (Int.toNat v28) (MTrade.mk x37.No x37.Buyer (w64 ((w64 (v27 + (1 : Int))) + (1 : Int))) x37.Paper x37.Qty x37.Cash x37.Price x37.State)) (Int.toNat v28) (MTrade.mk x40.No x40.Buyer x40.Seller (w64 ((w64 ((w64 (v27 + (1 : Int))) + (1 : Int))) + (1 : Int))) x40.Qty x40.Cash x40.Price x40.State)) (Int.toNat v28) (MTrade.mk x43.No x43.Buyer x43.Seller x43.Paper (w64 ((w64 ((w64 ((w64 (v27 + (1 : Int))) + (1 : Int))) + (1 : Int))) + (1 : Int))) x43.Cash x43.Price x43.State)) (Int.toNat v28) (MTrade.mk x46.No x46.Buyer x46.Seller x46.Paper x46.Qty (w64 ((w64 ((w64 ((w64 ((w64 (v27 + (1 : Int))) + (1 : Int))) + (1 : Int))) + (1 : Int))) + (1 : Int))) x46.Price x46.State)) (Int.toNat v28) (MTrade.mk x49.No x49.Buyer x49.Seller x49.Paper x49.Qty x49.Cash (w64 ((w64 ((w64 ((w64 ((w64 ((w64 (v27 + (1 : Int))) + (1 : Int))) + (1 : Int))) + (1 : Int))) + (1 : Int))) + (1 : Int))) x49.State)))) then (Option.bind (List.set (List.set (List.set (List.set (List.set (List.set (List.set v26 (Int.toNat v28) (MTrade.mk v27 x31.Buyer x31.Seller x31.Paper x31.Qty x31.Cash x31.Price x31.State)) (Int.toNat v28) (MTrade.mk x34.No (w64 (v27 + (1 : Int))) x34.Seller x34.Paper x34.Qty x34.Cash x34.Price x34.State)) (Int.toNat v28) (MTrade.mk x37.No x37.Buyer (w64 ((w64 (v27 + (1 : Int))) + (1 : Int))) x37.Paper x37.Qty x37.Cash x37.Price x37.State)) (Int.toNat v28) (MTrade.mk x40.No x40.Buyer x40.Seller (w64 ((w64 ((w64 (v27 + (1 : Int))) + (1 : Int))) + (1 : Int))) x40.Qty x40.Cash x40.Price x40.State)) (Int.toNat v28) (MTrade.mk x43.No x43.Buyer x43.Seller x43.Paper (w64 ((w64 ((w64 ((w64 (v27 + (1 : Int))) + (1 : Int))) + (1 : Int))) + (1 : Int))) x43.Cash x43.Price x43.State)) (Int.toNat v28) (MTrade.mk x46.No x46.Buyer x46.Seller x46.Paper x46.Qty (w64 ((w64 ((w64 ((w64 ((w64 (v27 + (1 : Int))) + (1 : Int))) + (1 : Int))) + (1 : Int))) + (1 : Int))) x46.Price x46.State)) (Int.toNat v28) (MTrade.mk x49.No x49.Buyer x49.Seller x49.Paper x49.Qty x49.Cash (w64 ((w64 ((w64 ((w64 ((w64 ((w64 (v27 + (1 : Int))) + (1 : Int))) + (1 : Int))) + (1 : Int))) + (1 : Int))) + (1 : Int))) x49.State))[(Int.toNat v28)]? fun x52 => l_markTradeS_L1 k1_0 n ((List.set (List.set (List.set (List.set (List.set (List.set (List.set (List.set v26 (Int.toNat v28) (MTrade.mk v27 x31.Buyer x31.Seller x31.Paper x31.Qty x31.Cash x31.Price x31.State)) (Int.toNat v28) (MTrade.mk x34.No (w64 (v27 + (1 : Int))) x34.Seller x34.Paper x34.Qty x34.Cash x34.Price x34.State)) (Int.toNat v28) (MTrade.mk x37.No x37.Buyer (w64 ((w64 (v27 + (1 : Int))) + (1 : Int))) x37.Paper x37.Qty x37.Cash x37.Price x37.State)) (Int.toNat v28) (MTrade.mk x40.No x40.Buyer x40.Seller (w64 ((w64 ((w64 (v27 + (1 : Int))) + (1 : Int))) + (1 : Int))) x40.Qty x40.Cash x40.Price x40.State)) (Int.toNat v28) (MTrade.mk x43.No x43.Buyer x43.Seller x43.Paper (w64 ((w64 ((w64 ((w64 (v27 + (1 : Int))) + (1 : Int))) + (1 : Int))) + (1 : Int))) x43.Cash x43.Price x43.State)) (Int.toNat v28) (MTrade.mk x46.No x46.Buyer x46.Seller x46.Paper x46.Qty (w64 ((w64 ((w64 ((w64 ((w64 (v27 + (1 : Int))) + (1 : Int))) + (1 : Int))) + (1 : Int))) + (1 : Int))) x46.Price x46.State)) (Int.toNat v28) (MTrade.mk x49.No x49.Buyer x49.Seller x49.Paper x49.Qty x49.Cash (w64 ((w64 ((w64 ((w64 ((w64 ((w64 (v27 + (1 : Int))) + (1 : Int))) + (1 : Int))) + (1 : Int))) + (1 : Int))) + (1 : Int))) x49.State)) (Int.toNat v28) (MTrade.mk x52.No x52.Buyer x52.Seller x52.Paper x52.Qty x52.Cash x52.Price (w64 ((w64 ((w64 ((w64 ((w64 ((w64 ((w64 (v27 + (1 : Int))) + (1 : Int))) + (1 : Int))) + (1 : Int))) + (1 : Int))) + (1 : Int))) + (1 : Int))))), w64 ((w64 ((w64 ((w64 ((w64 ((w64 ((w64 ((w64 (v27 + (1 : Int))) + (1 : Int))) + (1 : Int))) + (1 : Int))) + (1 : Int))) + (1 : Int))) + (1 : Int))) + (1 : Int)), w64 (v28 + (1 : Int)))) else none)) else none)) else none)) else none)) else none)) else none)) else none)) else none) else k1_0 (v26, v27))
def l_markTradeS (a0 : (List MTrade)) (a1 : Int) : Option (Int × (List MTrade)) :=
    l_markTradeS_L1 (fun (w54, w55) => some (w55, w54)) FUEL (a0, a1, (0 : Int))
def l_markBooks (a0_0 : (List MAccount)) (a0_1 : (List MInstr)) (a0_2 : (List MBal)) (a0_3 : (List MLot)) (a0_4 : (List MTrade)) (a0_5 : Int) (a1 : Int) : Option (Int × (List MAccount) × (List MInstr) × (List MBal) × (List MLot) × (List MTrade)) :=
    (Option.bind (l_markAccountS a0_0 a1) fun y1 => (Option.bind (l_markInstrS a0_1 y1.1) fun y3 => (Option.bind (l_markBalS a0_2 y3.1) fun y5 => (Option.bind (l_markLotS a0_3 y5.1) fun y7 => (Option.bind (l_markTradeS a0_4 y7.1) fun y9 => some (y9.1, y1.2, y3.2, y5.2, y7.2, y9.2))))))
def l_markSave (a0_0 : Int) (a0_1 : (List MAccount)) (a0_2 : (List MInstr)) (a0_3 : (List MBal)) (a0_4 : (List MLot)) (a0_5 : (List MTrade)) (a0_6 : Int) (a1 : Int) : Option (Int × (List MAccount) × (List MInstr) × (List MBal) × (List MLot) × (List MTrade)) :=
    (Option.bind (l_markBooks a0_1 a0_2 a0_3 a0_4 a0_5 a0_6 a1) fun y1 => some (y1.1, y1.2.1, y1.2.2.1, y1.2.2.2.1, y1.2.2.2.2.1, y1.2.2.2.2.2))
def l_heldAccountS_L1 (a0 : (List MAccount)) (k1_0 : Int → Option Int) : Nat → (Int × Int) → Option Int
  | 0, _ => none
  | n + 1, (v7, v8) =>
  (if v8 < (ln (List.map MAccount.av a0)) then (if 0 ≤ v8 then (Option.bind a0[(Int.toNat v8)]? fun x11 => (if x11.No ≠ v7 then some (-1 : Int) else (if x11.Kind ≠ w64 (v7 + (1 : Int)) then some (-1 : Int) else l_heldAccountS_L1 a0 k1_0 n (w64 ((w64 (v7 + (1 : Int))) + (1 : Int)), w64 (v8 + (1 : Int)))))) else none) else k1_0 v7)
def l_heldAccountS (a0 : (List MAccount)) (a1 : Int) : Option Int :=
    l_heldAccountS_L1 a0 (fun w15 => some w15) FUEL (a1, (0 : Int))
def l_heldInstrS_L1 (a0 : (List MInstr)) (k1_0 : Int → Option Int) : Nat → (Int × Int) → Option Int
  | 0, _ => none
  | n + 1, (v7, v8) =>
  (if v8 < (ln (List.map MInstr.av a0)) then (if 0 ≤ v8 then (Option.bind a0[(Int.toNat v8)]? fun x11 => (if x11.No ≠ v7 then some (-1 : Int) else (if x11.Kind ≠ w64 (v7 + (1 : Int)) then some (-1 : Int) else l_heldInstrS_L1 a0 k1_0 n (w64 ((w64 (v7 + (1 : Int))) + (1 : Int)), w64 (v8 + (1 : Int)))))) else none) else k1_0 v7)
def l_heldInstrS (a0 : (List MInstr)) (a1 : Int) : Option Int :=
    l_heldInstrS_L1 a0 (fun w15 => some w15) FUEL (a1, (0 : Int))
def l_heldBalS_L1 (a0 : (List MBal)) (k1_0 : Int → Option Int) : Nat → (Int × Int) → Option Int
  | 0, _ => none
  | n + 1, (v8, v9) =>
  (if v9 < (ln (List.map MBal.av a0)) then (if 0 ≤ v9 then (Option.bind a0[(Int.toNat v9)]? fun x12 => (if x12.Account ≠ v8 then some (-1 : Int) else (if x12.Instr ≠ w64 (v8 + (1 : Int)) then some (-1 : Int) else (if x12.Amount ≠ w64 ((w64 (v8 + (1 : Int))) + (1 : Int)) then some (-1 : Int) else l_heldBalS_L1 a0 k1_0 n (w64 ((w64 ((w64 (v8 + (1 : Int))) + (1 : Int))) + (1 : Int)), w64 (v9 + (1 : Int))))))) else none) else k1_0 v8)
def l_heldBalS (a0 : (List MBal)) (a1 : Int) : Option Int :=
    l_heldBalS_L1 a0 (fun w17 => some w17) FUEL (a1, (0 : Int))
def l_heldLotS_L1 (a0 : (List MLot)) (k1_0 : Int → Option Int) : Nat → (Int × Int) → Option Int
  | 0, _ => none
  | n + 1, (v10, v11) =>
  (if v11 < (ln (List.map MLot.av a0)) then (if 0 ≤ v11 then (Option.bind a0[(Int.toNat v11)]? fun x14 => (if x14.Account ≠ v10 then some (-1 : Int) else (if x14.Instr ≠ w64 (v10 + (1 : Int)) then some (-1 : Int) else (if x14.No ≠ w64 ((w64 (v10 + (1 : Int))) + (1 : Int)) then some (-1 : Int) else (if x14.Qty ≠ w64 ((w64 ((w64 (v10 + (1 : Int))) + (1 : Int))) + (1 : Int)) then some (-1 : Int) else (if x14.Cost ≠ w64 ((w64 ((w64 ((w64 (v10 + (1 : Int))) + (1 : Int))) + (1 : Int))) + (1 : Int)) then some (-1 : Int) else l_heldLotS_L1 a0 k1_0 n (w64 ((w64 ((w64 ((w64 ((w64 (v10 + (1 : Int))) + (1 : Int))) + (1 : Int))) + (1 : Int))) + (1 : Int)), w64 (v11 + (1 : Int))))))))) else none) else k1_0 v10)
def l_heldLotS (a0 : (List MLot)) (a1 : Int) : Option Int :=
    l_heldLotS_L1 a0 (fun w21 => some w21) FUEL (a1, (0 : Int))
def l_heldTradeS_L1 (a0 : (List MTrade)) (k1_0 : Int → Option Int) : Nat → (Int × Int) → Option Int
  | 0, _ => none
  | n + 1, (v13, v14) =>
  (if v14 < (ln (List.map MTrade.av a0)) then (if 0 ≤ v14 then (Option.bind a0[(Int.toNat v14)]? fun x17 => (if x17.No ≠ v13 then some (-1 : Int) else (if x17.Buyer ≠ w64 (v13 + (1 : Int)) then some (-1 : Int) else (if x17.Seller ≠ w64 ((w64 (v13 + (1 : Int))) + (1 : Int)) then some (-1 : Int) else (if x17.Paper ≠ w64 ((w64 ((w64 (v13 + (1 : Int))) + (1 : Int))) + (1 : Int)) then some (-1 : Int) else (if x17.Qty ≠ w64 ((w64 ((w64 ((w64 (v13 + (1 : Int))) + (1 : Int))) + (1 : Int))) + (1 : Int)) then some (-1 : Int) else (if x17.Cash ≠ w64 ((w64 ((w64 ((w64 ((w64 (v13 + (1 : Int))) + (1 : Int))) + (1 : Int))) + (1 : Int))) + (1 : Int)) then some (-1 : Int) else (if x17.Price ≠ w64 ((w64 ((w64 ((w64 ((w64 ((w64 (v13 + (1 : Int))) + (1 : Int))) + (1 : Int))) + (1 : Int))) + (1 : Int))) + (1 : Int)) then some (-1 : Int) else (if x17.State ≠ w64 ((w64 ((w64 ((w64 ((w64 ((w64 ((w64 (v13 + (1 : Int))) + (1 : Int))) + (1 : Int))) + (1 : Int))) + (1 : Int))) + (1 : Int))) + (1 : Int)) then some (-1 : Int) else l_heldTradeS_L1 a0 k1_0 n (w64 ((w64 ((w64 ((w64 ((w64 ((w64 ((w64 ((w64 (v13 + (1 : Int))) + (1 : Int))) + (1 : Int))) + (1 : Int))) + (1 : Int))) + (1 : Int))) + (1 : Int))) + (1 : Int)), w64 (v14 + (1 : Int)))))))))))) else none) else k1_0 v13)
def l_heldTradeS (a0 : (List MTrade)) (a1 : Int) : Option Int :=
    l_heldTradeS_L1 a0 (fun w27 => some w27) FUEL (a1, (0 : Int))
def l_heldBooks (a0 : MBooks) (a1 : Int) : Option Int :=
    (Option.bind (l_heldAccountS a0.Accounts a1) fun y1 => (if y1 < (0 : Int) then some (-1 : Int) else (Option.bind (l_heldInstrS a0.Instrs y1) fun y4 => (if y4 < (0 : Int) then some (-1 : Int) else (Option.bind (l_heldBalS a0.Bals y4) fun y7 => (if y7 < (0 : Int) then some (-1 : Int) else (Option.bind (l_heldLotS a0.Lots y7) fun y10 => (if y10 < (0 : Int) then some (-1 : Int) else (Option.bind (l_heldTradeS a0.Trades y10) fun y13 => (if y13 < (0 : Int) then some (-1 : Int) else some y13))))))))))
def l_heldSave (a0 : MSave) (a1 : Int) : Option Int :=
    (Option.bind (l_heldBooks a0.Books a1) fun y1 => (if y1 < (0 : Int) then some (-1 : Int) else some y1))
def l_FnExactSaveLoad (a0 : MDisk) : Option Bool :=
    (Option.bind (l_szDisk a0 (1048576 : Int)) fun y1 => (if y1 < (0 : Int) then some true else (Option.bind (l_toDisk a0) fun y4 => (Option.bind (s_SaveLoad (MDisk.mk y4.1 y4.2)) fun y6 => (Option.bind (l_toDisk a0) fun y8 => (Option.bind (i_SaveLoad (MDisk.mk y8.1 y8.2)) fun y10 => (Option.bind (l_eqSave (MSave.mk y10.1 (MBooks.mk y10.2.1 y10.2.2.1 y10.2.2.2.1 y10.2.2.2.2.1 y10.2.2.2.2.2.1 y10.2.2.2.2.2.2.1)) (MSave.mk y6.1 (MBooks.mk y6.2.1 y6.2.2.1 y6.2.2.2.1 y6.2.2.2.2.1 y6.2.2.2.2.2.1 y6.2.2.2.2.2.2.1))) fun y12 => (if ¬ (y12 = true) then some false else (if ¬ ((y10.2.2.2.2.2.2.2 = true) ↔ (y6.2.2.2.2.2.2.2 = true)) then some false else (Option.bind (l_toDisk a0) fun y16 => (Option.bind (l_eqDisk (MDisk.mk y8.1 y8.2) (MDisk.mk y16.1 y16.2)) fun y18 => (if ¬ (y18 = true) then some false else (Option.bind (l_markDisk y8.1 y8.2 (1 : Int)) fun y21 => (if y21.1 < (0 : Int) then some false else (Option.bind (l_eqSave (MSave.mk y10.1 (MBooks.mk y10.2.1 y10.2.2.1 y10.2.2.2.1 y10.2.2.2.2.1 y10.2.2.2.2.2.1 y10.2.2.2.2.2.2.1)) (MSave.mk y6.1 (MBooks.mk y6.2.1 y6.2.2.1 y6.2.2.2.1 y6.2.2.2.2.1 y6.2.2.2.2.2.1 y6.2.2.2.2.2.2.1))) fun y24 => (if ¬ (y24 = true) then some false else (Option.bind (l_markSave y10.1 y10.2.1 y10.2.2.1 y10.2.2.2.1 y10.2.2.2.2.1 y10.2.2.2.2.2.1 y10.2.2.2.2.2.2.1 (1 : Int)) fun y27 => (Option.bind (l_heldSave (MSave.mk y10.1 (MBooks.mk y27.2.1 y27.2.2.1 y27.2.2.2.1 y27.2.2.2.2.1 y27.2.2.2.2.2 y10.2.2.2.2.2.2.1)) (1 : Int)) fun y29 => (if y29 < (0 : Int) then some false else (if y29 ≠ y27.1 then some false else (Option.bind (l_toDisk a0) fun y33 => (Option.bind (i_SaveLoad (MDisk.mk y33.1 y33.2)) fun y35 => (Option.bind (l_eqSave (MSave.mk y35.1 (MBooks.mk y35.2.1 y35.2.2.1 y35.2.2.2.1 y35.2.2.2.2.1 y35.2.2.2.2.2.1 y35.2.2.2.2.2.2.1)) (MSave.mk y6.1 (MBooks.mk y6.2.1 y6.2.2.1 y6.2.2.2.1 y6.2.2.2.2.1 y6.2.2.2.2.2.1 y6.2.2.2.2.2.2.1))) fun y37 => (if ¬ (y37 = true) then some false else (if ¬ ((y35.2.2.2.2.2.2.2 = true) ↔ (y6.2.2.2.2.2.2.2 = true)) then some false else (Option.bind (l_heldSave (MSave.mk y10.1 (MBooks.mk y27.2.1 y27.2.2.1 y27.2.2.2.1 y27.2.2.2.2.1 y27.2.2.2.2.2 y10.2.2.2.2.2.2.1)) (1 : Int)) fun y41 => (if y41 < (0 : Int) then some false else (if y41 ≠ y27.1 then some false else some true))))))))))))))))))))))))))))
def l_szAccountS (a0 : (List MAccount)) (a1 : Int) : Option Int :=
    (if w64 (a1 - (ln (List.map MAccount.av a0))) < (0 : Int) then some (-1 : Int) else some (w64 (a1 - (ln (List.map MAccount.av a0)))))
def l_szInstrS (a0 : (List MInstr)) (a1 : Int) : Option Int :=
    (if w64 (a1 - (ln (List.map MInstr.av a0))) < (0 : Int) then some (-1 : Int) else some (w64 (a1 - (ln (List.map MInstr.av a0)))))
def l_szBalS (a0 : (List MBal)) (a1 : Int) : Option Int :=
    (if w64 (a1 - (ln (List.map MBal.av a0))) < (0 : Int) then some (-1 : Int) else some (w64 (a1 - (ln (List.map MBal.av a0)))))
def l_szLotS (a0 : (List MLot)) (a1 : Int) : Option Int :=
    (if w64 (a1 - (ln (List.map MLot.av a0))) < (0 : Int) then some (-1 : Int) else some (w64 (a1 - (ln (List.map MLot.av a0)))))
def l_szTradeS (a0 : (List MTrade)) (a1 : Int) : Option Int :=
    (if w64 (a1 - (ln (List.map MTrade.av a0))) < (0 : Int) then some (-1 : Int) else some (w64 (a1 - (ln (List.map MTrade.av a0)))))
def l_szBooks (a0 : MBooks) (a1 : Int) : Option Int :=
    (Option.bind (l_szAccountS a0.Accounts a1) fun y1 => (if y1 < (0 : Int) then some (-1 : Int) else (Option.bind (l_szInstrS a0.Instrs y1) fun y4 => (if y4 < (0 : Int) then some (-1 : Int) else (Option.bind (l_szBalS a0.Bals y4) fun y7 => (if y7 < (0 : Int) then some (-1 : Int) else (Option.bind (l_szLotS a0.Lots y7) fun y10 => (if y10 < (0 : Int) then some (-1 : Int) else (Option.bind (l_szTradeS a0.Trades y10) fun y13 => (if y13 < (0 : Int) then some (-1 : Int) else some y13))))))))))
def l_szSave (a0 : MSave) (a1 : Int) : Option Int :=
    (Option.bind (l_szBooks a0.Books a1) fun y1 => (if y1 < (0 : Int) then some (-1 : Int) else some y1))
def l_toAccount (a0 : MAccount) : Option (Int × Int) :=
    some (a0.No, a0.Kind)
def l_toAccountS_L1 (a0 : (List MAccount)) (k1_0 : (List MAccount) → Option (List MAccount)) : Nat → ((List MAccount) × Int) → Option (List MAccount)
  | 0, _ => none
  | n + 1, (v11, v12) =>
  (if v12 < (ln (List.map MAccount.av a0)) then (if 0 ≤ v12 then (Option.bind a0[(Int.toNat v12)]? fun x15 => (Option.bind (l_toAccount x15) fun y17 => (if 0 ≤ v12 ∧ v12 < (ln (List.map MAccount.av v11)) then (Option.bind v11[(Int.toNat v12)]? fun x20 => l_toAccountS_L1 a0 k1_0 n ((List.set v11 (Int.toNat v12) (MAccount.mk y17.1 y17.2)), w64 (v12 + (1 : Int)))) else none))) else none) else k1_0 v11)
def l_toAccountS (a0 : (List MAccount)) : Option (List MAccount) :=
    (if 0 ≤ (ln (List.map MAccount.av a0)) ∧ (ln (List.map MAccount.av a0)) ≤ (ln (List.map MAccount.av a0)) ∧ (ln (List.map MAccount.av a0)) * 16 ≤ 140737488355328 then l_toAccountS_L1 a0 (fun w22 => some w22) FUEL ((List.replicate (Int.toNat (ln (List.map MAccount.av a0))) (MAccount.mk (0 : Int) (0 : Int))), (0 : Int)) else none)
def l_toInstr (a0 : MInstr) : Option (Int × Int) :=
    some (a0.No, a0.Kind)
def l_toInstrS_L1 (a0 : (List MInstr)) (k1_0 : (List MInstr) → Option (List MInstr)) : Nat → ((List MInstr) × Int) → Option (List MInstr)
  | 0, _ => none
  | n + 1, (v11, v12) =>
  (if v12 < (ln (List.map MInstr.av a0)) then (if 0 ≤ v12 then (Option.bind a0[(Int.toNat v12)]? fun x15 => (Option.bind (l_toInstr x15) fun y17 => (if 0 ≤ v12 ∧ v12 < (ln (List.map MInstr.av v11)) then (Option.bind v11[(Int.toNat v12)]? fun x20 => l_toInstrS_L1 a0 k1_0 n ((List.set v11 (Int.toNat v12) (MInstr.mk y17.1 y17.2)), w64 (v12 + (1 : Int)))) else none))) else none) else k1_0 v11)
def l_toInstrS (a0 : (List MInstr)) : Option (List MInstr) :=
    (if 0 ≤ (ln (List.map MInstr.av a0)) ∧ (ln (List.map MInstr.av a0)) ≤ (ln (List.map MInstr.av a0)) ∧ (ln (List.map MInstr.av a0)) * 16 ≤ 140737488355328 then l_toInstrS_L1 a0 (fun w22 => some w22) FUEL ((List.replicate (Int.toNat (ln (List.map MInstr.av a0))) (MInstr.mk (0 : Int) (0 : Int))), (0 : Int)) else none)
def l_toBal (a0 : MBal) : Option (Int × Int × Int) :=
    some (a0.Account, a0.Instr, a0.Amount)
def l_toBalS_L1 (a0 : (List MBal)) (k1_0 : (List MBal) → Option (List MBal)) : Nat → ((List MBal) × Int) → Option (List MBal)
  | 0, _ => none
  | n + 1, (v11, v12) =>
  (if v12 < (ln (List.map MBal.av a0)) then (if 0 ≤ v12 then (Option.bind a0[(Int.toNat v12)]? fun x15 => (Option.bind (l_toBal x15) fun y17 => (if 0 ≤ v12 ∧ v12 < (ln (List.map MBal.av v11)) then (Option.bind v11[(Int.toNat v12)]? fun x20 => l_toBalS_L1 a0 k1_0 n ((List.set v11 (Int.toNat v12) (MBal.mk y17.1 y17.2.1 y17.2.2)), w64 (v12 + (1 : Int)))) else none))) else none) else k1_0 v11)
def l_toBalS (a0 : (List MBal)) : Option (List MBal) :=
    (if 0 ≤ (ln (List.map MBal.av a0)) ∧ (ln (List.map MBal.av a0)) ≤ (ln (List.map MBal.av a0)) ∧ (ln (List.map MBal.av a0)) * 24 ≤ 140737488355328 then l_toBalS_L1 a0 (fun w22 => some w22) FUEL ((List.replicate (Int.toNat (ln (List.map MBal.av a0))) (MBal.mk (0 : Int) (0 : Int) (0 : Int))), (0 : Int)) else none)
def l_toLot (a0 : MLot) : Option (Int × Int × Int × Int × Int) :=
    some (a0.Account, a0.Instr, a0.No, a0.Qty, a0.Cost)
def l_toLotS_L1 (a0 : (List MLot)) (k1_0 : (List MLot) → Option (List MLot)) : Nat → ((List MLot) × Int) → Option (List MLot)
  | 0, _ => none
  | n + 1, (v11, v12) =>
  (if v12 < (ln (List.map MLot.av a0)) then (if 0 ≤ v12 then (Option.bind a0[(Int.toNat v12)]? fun x15 => (Option.bind (l_toLot x15) fun y17 => (if 0 ≤ v12 ∧ v12 < (ln (List.map MLot.av v11)) then (Option.bind v11[(Int.toNat v12)]? fun x20 => l_toLotS_L1 a0 k1_0 n ((List.set v11 (Int.toNat v12) (MLot.mk y17.1 y17.2.1 y17.2.2.1 y17.2.2.2.1 y17.2.2.2.2)), w64 (v12 + (1 : Int)))) else none))) else none) else k1_0 v11)
def l_toLotS (a0 : (List MLot)) : Option (List MLot) :=
    (if 0 ≤ (ln (List.map MLot.av a0)) ∧ (ln (List.map MLot.av a0)) ≤ (ln (List.map MLot.av a0)) ∧ (ln (List.map MLot.av a0)) * 40 ≤ 140737488355328 then l_toLotS_L1 a0 (fun w22 => some w22) FUEL ((List.replicate (Int.toNat (ln (List.map MLot.av a0))) (MLot.mk (0 : Int) (0 : Int) (0 : Int) (0 : Int) (0 : Int))), (0 : Int)) else none)
def l_toTrade (a0 : MTrade) : Option (Int × Int × Int × Int × Int × Int × Int × Int) :=
    some (a0.No, a0.Buyer, a0.Seller, a0.Paper, a0.Qty, a0.Cash, a0.Price, a0.State)
def l_toTradeS_L1 (a0 : (List MTrade)) (k1_0 : (List MTrade) → Option (List MTrade)) : Nat → ((List MTrade) × Int) → Option (List MTrade)
  | 0, _ => none
  | n + 1, (v11, v12) =>
  (if v12 < (ln (List.map MTrade.av a0)) then (if 0 ≤ v12 then (Option.bind a0[(Int.toNat v12)]? fun x15 => (Option.bind (l_toTrade x15) fun y17 => (if 0 ≤ v12 ∧ v12 < (ln (List.map MTrade.av v11)) then (Option.bind v11[(Int.toNat v12)]? fun x20 => l_toTradeS_L1 a0 k1_0 n ((List.set v11 (Int.toNat v12) (MTrade.mk y17.1 y17.2.1 y17.2.2.1 y17.2.2.2.1 y17.2.2.2.2.1 y17.2.2.2.2.2.1 y17.2.2.2.2.2.2.1 y17.2.2.2.2.2.2.2)), w64 (v12 + (1 : Int)))) else none))) else none) else k1_0 v11)
def l_toTradeS (a0 : (List MTrade)) : Option (List MTrade) :=
    (if 0 ≤ (ln (List.map MTrade.av a0)) ∧ (ln (List.map MTrade.av a0)) ≤ (ln (List.map MTrade.av a0)) ∧ (ln (List.map MTrade.av a0)) * 64 ≤ 140737488355328 then l_toTradeS_L1 a0 (fun w22 => some w22) FUEL ((List.replicate (Int.toNat (ln (List.map MTrade.av a0))) (MTrade.mk (0 : Int) (0 : Int) (0 : Int) (0 : Int) (0 : Int) (0 : Int) (0 : Int) (0 : Int))), (0 : Int)) else none)
def l_toBooks (a0 : MBooks) : Option ((List MAccount) × (List MInstr) × (List MBal) × (List MLot) × (List MTrade) × Int) :=
    (Option.bind (l_toAccountS a0.Accounts) fun y1 => (Option.bind (l_toInstrS a0.Instrs) fun y3 => (Option.bind (l_toBalS a0.Bals) fun y5 => (Option.bind (l_toLotS a0.Lots) fun y7 => (Option.bind (l_toTradeS a0.Trades) fun y9 => some (y1, y3, y5, y7, y9, a0.Lot))))))
def l_toSave (a0 : MSave) : Option (Int × (List MAccount) × (List MInstr) × (List MBal) × (List MLot) × (List MTrade) × Int) :=
    (Option.bind (l_toBooks a0.Books) fun y1 => some (a0.From, y1.1, y1.2.1, y1.2.2.1, y1.2.2.2.1, y1.2.2.2.2.1, y1.2.2.2.2.2))
def s_l13Nums_L1 (a0 : MBooks) (k1_0 : (List Int) → Option (List Int)) : Nat → ((List Int) × Int) → Option (List Int)
  | 0, _ => none
  | n + 1, (v6, v7) =>
  (if v7 < (ln (List.map MAccount.av a0.Accounts)) then (if 0 ≤ v7 then (Option.bind a0.Accounts[(Int.toNat v7)]? fun x10 => (if (List.length (List.map iv v6) + List.length (List.map iv [x10.No, x10.Kind])) * 8 ≤ 140737488355328 then s_l13Nums_L1 a0 k1_0 n ((v6 ++ [x10.No, x10.Kind]), w64 (v7 + (1 : Int))) else none)) else none) else k1_0 v6)
def s_l13Nums_L2 (a0 : MBooks) (k2_2 : (List Int) → Option (List Int)) : Nat → ((List Int) × Int) → Option (List Int)
  | 0, _ => none
  | n + 1, (v20, v21) =>
  (if v21 < (ln (List.map MInstr.av a0.Instrs)) then (if 0 ≤ v21 then (Option.bind a0.Instrs[(Int.toNat v21)]? fun x24 => (if (List.length (List.map iv v20) + List.length (List.map iv [x24.No, x24.Kind])) * 8 ≤ 140737488355328 then s_l13Nums_L2 a0 k2_2 n ((v20 ++ [x24.No, x24.Kind]), w64 (v21 + (1 : Int))) else none)) else none) else k2_2 v20)
def s_l13Nums_L3 (a0 : MBooks) (k3_4 : (List Int) → Option (List Int)) : Nat → ((List Int) × Int) → Option (List Int)
  | 0, _ => none
  | n + 1, (v34, v35) =>
  (if v35 < (ln (List.map MBal.av a0.Bals)) then (if 0 ≤ v35 then (Option.bind a0.Bals[(Int.toNat v35)]? fun x38 => (if (List.length (List.map iv v34) + List.length (List.map iv [x38.Account, x38.Instr, w64 (x38.Amount + (1000000000000000 : Int))])) * 8 ≤ 140737488355328 then s_l13Nums_L3 a0 k3_4 n ((v34 ++ [x38.Account, x38.Instr, w64 (x38.Amount + (1000000000000000 : Int))]), w64 (v35 + (1 : Int))) else none)) else none) else k3_4 v34)
def s_l13Nums_L4 (a0 : MBooks) (k4_6 : (List Int) → Option (List Int)) : Nat → ((List Int) × Int) → Option (List Int)
  | 0, _ => none
  | n + 1, (v48, v49) =>
  (if v49 < (ln (List.map MLot.av a0.Lots)) then (if 0 ≤ v49 then (Option.bind a0.Lots[(Int.toNat v49)]? fun x52 => (if (List.length (List.map iv v48) + List.length (List.map iv [x52.Account, x52.Instr, x52.No, x52.Qty, x52.Cost])) * 8 ≤ 140737488355328 then s_l13Nums_L4 a0 k4_6 n ((v48 ++ [x52.Account, x52.Instr, x52.No, x52.Qty, x52.Cost]), w64 (v49 + (1 : Int))) else none)) else none) else k4_6 v48)
def s_l13Nums_L5 (a0 : MBooks) (k5_8 : (List Int) → Option (List Int)) : Nat → ((List Int) × Int) → Option (List Int)
  | 0, _ => none
  | n + 1, (v62, v63) =>
  (if v63 < (ln (List.map MTrade.av a0.Trades)) then (if 0 ≤ v63 then (Option.bind a0.Trades[(Int.toNat v63)]? fun x66 => (if (List.length (List.map iv v62) + List.length (List.map iv [x66.No, x66.Buyer, x66.Seller, x66.Paper, x66.Qty, x66.Cash, x66.Price, x66.State])) * 8 ≤ 140737488355328 then s_l13Nums_L5 a0 k5_8 n ((v62 ++ [x66.No, x66.Buyer, x66.Seller, x66.Paper, x66.Qty, x66.Cash, x66.Price, x66.State]), w64 (v63 + (1 : Int))) else none)) else none) else k5_8 v62)
def s_l13Nums (a0 : MBooks) : Option (List Int) :=
    s_l13Nums_L1 a0 (fun w13 => (if (List.length (List.map iv w13) + List.length (List.map iv [(ln (List.map MInstr.av a0.Instrs))])) * 8 ≤ 140737488355328 then s_l13Nums_L2 a0 (fun w27 => (if (List.length (List.map iv w27) + List.length (List.map iv [(ln (List.map MBal.av a0.Bals))])) * 8 ≤ 140737488355328 then s_l13Nums_L3 a0 (fun w41 => (if (List.length (List.map iv w41) + List.length (List.map iv [(ln (List.map MLot.av a0.Lots))])) * 8 ≤ 140737488355328 then s_l13Nums_L4 a0 (fun w55 => (if (List.length (List.map iv w55) + List.length (List.map iv [(ln (List.map MTrade.av a0.Trades))])) * 8 ≤ 140737488355328 then s_l13Nums_L5 a0 (fun w69 => (if (List.length (List.map iv w69) + List.length (List.map iv [a0.Lot])) * 8 ≤ 140737488355328 then some (w69 ++ [a0.Lot]) else none)) FUEL ((w55 ++ [(ln (List.map MTrade.av a0.Trades))]), (0 : Int)) else none)) FUEL ((w41 ++ [(ln (List.map MLot.av a0.Lots))]), (0 : Int)) else none)) FUEL ((w27 ++ [(ln (List.map MBal.av a0.Bals))]), (0 : Int)) else none)) FUEL ((w13 ++ [(ln (List.map MInstr.av a0.Instrs))]), (0 : Int)) else none)) FUEL ([(ln (List.map MAccount.av a0.Accounts))], (0 : Int))
def s_PutNum_L1 (k1_0 : Int × (List UInt8) → Option (List UInt8)) : Nat → (Int × (List UInt8)) → Option (List UInt8)
  | 0, _ => none
  | n + 1, (v4, v5) =>
  (if (127 : Int) < v4 then (if (List.length (List.map u8 v5) + List.length (List.map u8 [(byteOf (w64 ((Int.tmod v4 (128 : Int)) + (128 : Int))))])) * 1 ≤ 140737488355328 then s_PutNum_L1 k1_0 n (w64 (Int.tdiv v4 (128 : Int)), (v5 ++ [(byteOf (w64 ((Int.tmod v4 (128 : Int)) + (128 : Int))))])) else none) else k1_0 (v4, v5))
def s_PutNum (a0 : Int) : Option (List UInt8) :=
    (if a0 < (0 : Int) then some ([] : List UInt8) else s_PutNum_L1 (fun (w8, w9) => (if (List.length (List.map u8 w9) + List.length (List.map u8 [(byteOf w8)])) * 1 ≤ 140737488355328 then some (w9 ++ [(byteOf w8)]) else none)) FUEL (a0, ([] : List UInt8)))
def s_PutNums_L1 (a0 : (List Int)) (k1_0 : (List UInt8) → Option (List UInt8)) : Nat → ((List UInt8) × Int) → Option (List UInt8)
  | 0, _ => none
  | n + 1, (v9, v10) =>
  (if v10 < (ln (List.map iv a0)) then (if 0 ≤ v10 then (Option.bind a0[(Int.toNat v10)]? fun x13 => (if x13 < (0 : Int) then some ([] : List UInt8) else (Option.bind (s_PutNum x13) fun y16 => (if (List.length (List.map u8 v9) + List.length (List.map u8 y16)) * 1 ≤ 140737488355328 then s_PutNums_L1 a0 k1_0 n ((v9 ++ y16), w64 (v10 + (1 : Int))) else none)))) else none) else k1_0 v9)
def s_PutNums (a0 : (List Int)) : Option (List UInt8) :=
    s_PutNums_L1 a0 (fun w19 => some w19) FUEL (([] : List UInt8), (0 : Int))
def s_BooksPack (a0 : MBooks) : Option ((List UInt8) × Bool) :=
    (Option.bind (s_BooksOk a0) fun y1 => (if ¬ (y1 = true) then some (([] : List UInt8), false) else (Option.bind (s_l13Nums a0) fun y4 => (Option.bind (s_PutNums y4) fun y6 => some (y6, true)))))
def s_Seal (a0 : (List UInt8)) : Option ((List UInt8) × Bool) :=
    (if (9000 : Int) < (ln (List.map u8 a0)) then some (([] : List UInt8), false) else (Option.bind (s_Check a0) fun y2 => (Option.bind (s_PutNum (ln (List.map u8 a0))) fun y4 => (if (List.length (List.map u8 y4) + List.length (List.map u8 a0)) * 1 ≤ 140737488355328 then (if (List.length (List.map u8 (y4 ++ a0)) + List.length (List.map u8 [(byteOf y2), (byteOf (Int.fdiv y2 (2 ^ (Int.toNat (8 : Int))))), (byteOf (Int.fdiv y2 (2 ^ (Int.toNat (16 : Int))))), (byteOf (Int.fdiv y2 (2 ^ (Int.toNat (24 : Int)))))])) * 1 ≤ 140737488355328 then some (((y4 ++ a0) ++ [(byteOf y2), (byteOf (Int.fdiv y2 (2 ^ (Int.toNat (8 : Int))))), (byteOf (Int.fdiv y2 (2 ^ (Int.toNat (16 : Int))))), (byteOf (Int.fdiv y2 (2 ^ (Int.toNat (24 : Int)))))]), true) else none) else none))))
def s_SavePack (a0 : MSave) : Option ((List UInt8) × Bool) :=
    (Option.bind (s_BooksPack a0.Books) fun y1 => (if ¬ (y1.2 = true) then some (([] : List UInt8), false) else (Option.bind (s_l15Seg a0.From) fun y4 => (if ¬ (y4 = true) then some (([] : List UInt8), false) else (Option.bind (s_PutNum a0.From) fun y7 => (if (List.length (List.map u8 y7) + List.length (List.map u8 y1.1)) * 1 ≤ 140737488355328 then (Option.bind (s_Seal (y7 ++ y1.1)) fun y10 => (if ¬ (y10.2 = true) then some (([] : List UInt8), false) else some (y10.1, true))) else none))))))
def s_l14Less_L1 (a0 : MDisk) (a1 : Int) (k1_0 : (List MFile) → Option (Int × (List MFile))) : Nat → ((List MFile) × Int) → Option (Int × (List MFile))
  | 0, _ => none
  | n + 1, (v7, v8) =>
  (if v8 < (ln (List.map MFile.av a0.Files)) then (if v8 ≠ a1 then (if 0 ≤ v8 then (Option.bind a0.Files[(Int.toNat v8)]? fun x12 => (if (List.length (List.map MFile.av v7) + List.length (List.map MFile.av [x12])) * 40 ≤ 140737488355328 then s_l14Less_L1 a0 a1 k1_0 n ((v7 ++ [x12]), w64 (v8 + (1 : Int))) else none)) else none) else s_l14Less_L1 a0 a1 k1_0 n (v7, w64 (v8 + (1 : Int)))) else k1_0 v7)
def s_l14Less (a0 : MDisk) (a1 : Int) : Option (Int × (List MFile)) :=
    s_l14Less_L1 a0 a1 (fun w15 => some (a0.Room, w15)) FUEL ([], (0 : Int))
def s_l14Copy (a0 : MDisk) : Option (Int × (List MFile)) :=
    (if (List.length (List.map MFile.av ([] : List MFile)) + List.length (List.map MFile.av a0.Files)) * 40 ≤ 140737488355328 then some (a0.Room, (([] : List MFile) ++ a0.Files)) else none)
def s_l14Put_L1 (a0 : MDisk) (a1 : MFile) (k1_0 : (List MFile) × Bool → Option (Int × (List MFile))) : Nat → ((List MFile) × Bool × Int) → Option (Int × (List MFile))
  | 0, _ => none
  | n + 1, (v11, v12, v13) =>
  (if v13 < (ln (List.map MFile.av a0.Files)) then (if ¬ (v12 = true) then (if 0 ≤ v13 then (Option.bind a0.Files[(Int.toNat v13)]? fun x17 => (if a1.Name ≤ x17.Name then (if (List.length (List.map MFile.av v11) + List.length (List.map MFile.av [a1])) * 40 ≤ 140737488355328 then (if x17.Name ≠ a1.Name then (if (List.length (List.map MFile.av (v11 ++ [a1])) + List.length (List.map MFile.av [x17])) * 40 ≤ 140737488355328 then s_l14Put_L1 a0 a1 k1_0 n (((v11 ++ [a1]) ++ [x17]), true, w64 (v13 + (1 : Int))) else none) else s_l14Put_L1 a0 a1 k1_0 n ((v11 ++ [a1]), true, w64 (v13 + (1 : Int)))) else none) else (if x17.Name ≠ a1.Name then (if (List.length (List.map MFile.av v11) + List.length (List.map MFile.av [x17])) * 40 ≤ 140737488355328 then s_l14Put_L1 a0 a1 k1_0 n ((v11 ++ [x17]), v12, w64 (v13 + (1 : Int))) else none) else s_l14Put_L1 a0 a1 k1_0 n (v11, v12, w64 (v13 + (1 : Int)))))) else none) else (if 0 ≤ v13 then (Option.bind a0.Files[(Int.toNat v13)]? fun x26 => (if x26.Name ≠ a1.Name then (if (List.length (List.map MFile.av v11) + List.length (List.map MFile.av [x26])) * 40 ≤ 140737488355328 then s_l14Put_L1 a0 a1 k1_0 n ((v11 ++ [x26]), v12, w64 (v13 + (1 : Int))) else none) else s_l14Put_L1 a0 a1 k1_0 n (v11, v12, w64 (v13 + (1 : Int))))) else none)) else k1_0 (v11, v12))
def s_l14Put (a0 : MDisk) (a1 : MFile) : Option (Int × (List MFile)) :=
    s_l14Put_L1 a0 a1 (fun (w30, w31) => (if ¬ (w31 = true) then (if (List.length (List.map MFile.av w30) + List.length (List.map MFile.av [a1])) * 40 ≤ 140737488355328 then some (a0.Room, (w30 ++ [a1])) else none) else some (a0.Room, w30))) FUEL ([], false, (0 : Int))
def s_DiskAppend (a0 : MDisk) (a1 : Int) (a2 : (List UInt8)) : Option (Int × (List MFile) × Int) :=
    (Option.bind (s_DiskOk a0) fun y1 => (if ¬ (y1 = true) then some ((0 : Int), [], (1 : Int)) else (Option.bind (s_l14Name a1) fun y4 => (if ¬ (y4 = true) then some ((0 : Int), [], (1 : Int)) else (Option.bind (s_l14Size a0) fun y7 => (if w64 (a0.Room - y7) < (ln a2) then (Option.bind (s_l14Copy a0) fun y10 => some (y10.1, y10.2, (3 : Int))) else (Option.bind (s_l14Find a0 a1) fun y12 => (if (0 : Int) ≤ y12 then (if 0 ≤ y12 then (Option.bind a0.Files[(Int.toNat y12)]? fun x16 => (if List.length x16.Late + List.length a2 ≤ maxLen then (Option.bind (s_l14Put a0 (MFile.mk x16.Name x16.Safe (x16.Late ++ a2))) fun y19 => some (y19.1, y19.2, (0 : Int))) else none)) else none) else (if List.length ([] : List UInt8) + List.length a2 ≤ maxLen then (Option.bind (s_l14Put a0 (MFile.mk a1 ([] : List UInt8) (([] : List UInt8) ++ a2))) fun y22 => some (y22.1, y22.2, (0 : Int))) else none)))))))))
def s_l14At (a0 : MDisk) (a1 : Int) : Option (Int × Int) :=
    (Option.bind (s_DiskOk a0) fun y1 => (if ¬ (y1 = true) then some ((-1 : Int), (1 : Int)) else (Option.bind (s_l14Name a1) fun y4 => (if ¬ (y4 = true) then some ((-1 : Int), (1 : Int)) else (Option.bind (s_l14Find a0 a1) fun y7 => (if y7 < (0 : Int) then some (y7, (2 : Int)) else some (y7, (0 : Int))))))))
def s_l14Refused (a0 : MDisk) (a1 : Int) : Option (Int × (List MFile)) :=
    (if a1 = (1 : Int) then some ((0 : Int), []) else (Option.bind (s_l14Copy a0) fun y2 => some (y2.1, y2.2)))
def s_DiskSync (a0 : MDisk) (a1 : Int) : Option (Int × (List MFile) × Int) :=
    (Option.bind (s_l14At a0 a1) fun y1 => (if y1.2 ≠ (0 : Int) then (Option.bind (s_l14Refused a0 y1.2) fun y4 => some (y4.1, y4.2, y1.2)) else (if 0 ≤ y1.1 then (Option.bind a0.Files[(Int.toNat y1.1)]? fun x7 => (if List.length x7.Safe + List.length x7.Late ≤ maxLen then (Option.bind (s_l14Put a0 (MFile.mk a1 (x7.Safe ++ x7.Late) ([] : List UInt8))) fun y10 => some (y10.1, y10.2, (0 : Int))) else none)) else none)))
def s_DiskMove (a0 : MDisk) (a1 : Int) (a2 : Int) : Option (Int × (List MFile) × Int) :=
    (Option.bind (s_l14At a0 a1) fun y1 => (Option.bind (s_l14Name a2) fun y3 => (if ¬ (y3 = true) then (if (1 : Int) ≠ (0 : Int) then (Option.bind (s_l14Refused a0 (1 : Int)) fun y7 => some (y7.1, y7.2, (1 : Int))) else (if 0 ≤ y1.1 then (Option.bind a0.Files[(Int.toNat y1.1)]? fun x10 => (Option.bind (s_l14Less a0 y1.1) fun y12 => (Option.bind (s_l14Put (MDisk.mk y12.1 y12.2) (MFile.mk a2 x10.Safe x10.Late)) fun y14 => some (y14.1, y14.2, (0 : Int))))) else none)) else (if a1 = a2 then (if (1 : Int) ≠ (0 : Int) then (Option.bind (s_l14Refused a0 (1 : Int)) fun y18 => some (y18.1, y18.2, (1 : Int))) else (if 0 ≤ y1.1 then (Option.bind a0.Files[(Int.toNat y1.1)]? fun x21 => (Option.bind (s_l14Less a0 y1.1) fun y23 => (Option.bind (s_l14Put (MDisk.mk y23.1 y23.2) (MFile.mk a2 x21.Safe x21.Late)) fun y25 => some (y25.1, y25.2, (0 : Int))))) else none)) else (if y1.2 ≠ (0 : Int) then (Option.bind (s_l14Refused a0 y1.2) fun y28 => some (y28.1, y28.2, y1.2)) else (if 0 ≤ y1.1 then (Option.bind a0.Files[(Int.toNat y1.1)]? fun x31 => (Option.bind (s_l14Less a0 y1.1) fun y33 => (Option.bind (s_l14Put (MDisk.mk y33.1 y33.2) (MFile.mk a2 x31.Safe x31.Late)) fun y35 => some (y35.1, y35.2, (0 : Int))))) else none))))))
def s_l4Has_L1 (a0 : (List Int)) (a1 : Int) (k1_0 : Unit → Option Bool) : Nat → Int → Option Bool
  | 0, _ => none
  | n + 1, v6 =>
  (if v6 < (ln (List.map iv a0)) then (if 0 ≤ v6 then (Option.bind a0[(Int.toNat v6)]? fun x9 => (if x9 = a1 then some true else s_l4Has_L1 a0 a1 k1_0 n (w64 (v6 + (1 : Int))))) else none) else k1_0 ())
def s_l4Has (a0 : (List Int)) (a1 : Int) : Option Bool :=
    s_l4Has_L1 a0 a1 (fun _ => some false) FUEL (0 : Int)
def s_SegsClear_L1 (a0 : MDisk) (a1 : (List Int)) (k1_0 : (List MFile) → Option (Int × (List MFile))) : Nat → ((List MFile) × Int) → Option (Int × (List MFile))
  | 0, _ => none
  | n + 1, (v17, v18) =>
  (if v18 < (ln (List.map MFile.av a0.Files)) then (if 0 ≤ v18 then (Option.bind a0.Files[(Int.toNat v18)]? fun x21 => (Option.bind (s_l15Seg x21.Name) fun y23 => (if ¬ (y23 = true) then (if (List.length (List.map MFile.av v17) + List.length (List.map MFile.av [x21])) * 40 ≤ 140737488355328 then s_SegsClear_L1 a0 a1 k1_0 n ((v17 ++ [x21]), w64 (v18 + (1 : Int))) else none) else (Option.bind (s_l4Has a1 x21.Name) fun y27 => (if y27 = true then (if (List.length (List.map MFile.av v17) + List.length (List.map MFile.av [x21])) * 40 ≤ 140737488355328 then s_SegsClear_L1 a0 a1 k1_0 n ((v17 ++ [x21]), w64 (v18 + (1 : Int))) else none) else s_SegsClear_L1 a0 a1 k1_0 n (v17, w64 (v18 + (1 : Int)))))))) else none) else k1_0 v17)
def s_SegsClear (a0 : MDisk) (a1 : (List Int)) : Option (Int × (List MFile)) :=
    (Option.bind (s_DiskOk a0) fun y1 => (if ¬ (y1 = true) then some ((0 : Int), []) else (if (20 : Int) < (ln (List.map iv a1)) then some ((0 : Int), []) else s_SegsClear_L1 a0 a1 (fun w31 => some (a0.Room, w31)) FUEL ([], (0 : Int)))))
def s_SaveStep (a0 : MDisk) (a1 : MSave) (a2 : Int) : Option (Int × (List MFile) × Int) :=
    (Option.bind (s_SavePack a1) fun y1 => (Option.bind (s_DiskOk a0) fun y3 => (if ¬ (y3 = true) then some ((0 : Int), [], (1 : Int)) else (if ¬ (y1.2 = true) then some ((0 : Int), [], (1 : Int)) else (Option.bind (s_l1In a2 (0 : Int) (3 : Int)) fun y7 => (if ¬ (y7 = true) then some ((0 : Int), [], (1 : Int)) else (if a2 = (0 : Int) then (Option.bind (s_l14Find a0 (20 : Int)) fun y11 => (if (0 : Int) ≤ y11 then (Option.bind (s_l14Less a0 y11) fun y14 => (Option.bind (s_DiskAppend (MDisk.mk y14.1 y14.2) (20 : Int) y1.1) fun y16 => (if y16.2.2 ≠ (0 : Int) then (Option.bind (s_l14Copy a0) fun y19 => some (y19.1, y19.2, y16.2.2)) else some (y16.1, y16.2.1, y16.2.2)))) else (Option.bind (s_DiskAppend a0 (20 : Int) y1.1) fun y21 => (if y21.2.2 ≠ (0 : Int) then (Option.bind (s_l14Copy a0) fun y24 => some (y24.1, y24.2, y21.2.2)) else some (y21.1, y21.2.1, y21.2.2))))) else (if a2 = (1 : Int) then (Option.bind (s_DiskSync a0 (20 : Int)) fun y27 => some (y27.1, y27.2.1, y27.2.2)) else (if a2 = (2 : Int) then (Option.bind (s_DiskMove a0 (20 : Int) (21 : Int)) fun y30 => some (y30.1, y30.2.1, y30.2.2)) else (Option.bind (s_SegsClear a0 []) fun y32 => some (y32.1, y32.2, (0 : Int))))))))))))
def g_Clone_File (a0 : (List MFile)) : Option (List MFile) :=
    if (List.length (List.map MFile.av ([] : List MFile)) + List.length (List.map MFile.av a0)) * 40 ≤ 140737488355328 then some a0 else none
def i_cloneDisk (a0 : MDisk) : Option (Int × (List MFile)) :=
    (Option.bind (g_Clone_File a0.Files) fun y1 => some (a0.Room, y1))
def i_Disk_drop_c1 (a0 : MFile) (a1_0 : Int) : Option Bool :=
    some (decide (a0.Name = a1_0))
def g_IndexFunc_File_s1_L1 (a0 : (List MFile)) (a1_0_0 : Int) (k1_0 : Unit → Option Int) : Nat → Int → Option Int
  | 0, _ => none
  | n + 1, v8 =>
  (if v8 < (ln (List.map MFile.av a0)) then (if 0 ≤ v8 then (Option.bind a0[(Int.toNat v8)]? fun x11 => (Option.bind (i_Disk_drop_c1 x11 a1_0_0) fun y13 => (if y13 = true then some v8 else g_IndexFunc_File_s1_L1 a0 a1_0_0 k1_0 n (w64 (v8 + (1 : Int)))))) else none) else k1_0 ())
def g_IndexFunc_File_s1 (a0 : (List MFile)) (a1_0_0 : Int) : Option Int :=
    g_IndexFunc_File_s1_L1 a0 a1_0_0 (fun _ => some (-1 : Int)) FUEL (0 : Int)
def g_DeleteFunc_File_L1 (a1_0_0 : Int) (k1_0 : (List MFile) × Int → Option (List MFile)) : Nat → ((List MFile) × Int × Int) → Option (List MFile)
  | 0, _ => none
  | n + 1, (v14, v15, v16) =>
  (if v16 < (ln (List.map MFile.av v14)) then (if 0 ≤ v16 ∧ v16 < (ln (List.map MFile.av v14)) then (Option.bind v14[(Int.toNat v16)]? fun x19 => (Option.bind (i_Disk_drop_c1 x19 a1_0_0) fun y21 => (if ¬ (y21 = true) then (if 0 ≤ v15 ∧ v15 < (ln (List.map MFile.av v14)) then (Option.bind v14[(Int.toNat v15)]? fun x25 => g_DeleteFunc_File_L1 a1_0_0 k1_0 n ((List.set v14 (Int.toNat v15) x19), w64 (v15 + (1 : Int)), w64 (v16 + (1 : Int)))) else none) else g_DeleteFunc_File_L1 a1_0_0 k1_0 n (v14, v15, w64 (v16 + (1 : Int)))))) else none) else k1_0 (v14, v15))
def g_DeleteFunc_File (a0 : (List MFile)) (a1_0_0 : Int) : Option (List MFile) :=
    (Option.bind (g_IndexFunc_File_s1 a0 a1_0_0) fun y1 => (if y1 = (-1 : Int) then some a0 else g_DeleteFunc_File_L1 a1_0_0 (fun (w27, w28) => (if 0 ≤ w28 ∧ w28 ≤ (ln (List.map MFile.av w27)) then (if (Int.toNat w28) + ((List.length (List.map MFile.av w27)) - (Int.toNat w28)) ≤ List.length (List.map MFile.av w27) then (if 0 ≤ w28 ∧ w28 ≤ (ln (List.map MFile.av (List.take (Int.toNat w28) w27 ++ List.replicate ((List.length (List.map MFile.av w27)) - (Int.toNat w28)) (MFile.mk (0 : Int) ([] : List UInt8) ([] : List UInt8)) ++ List.drop ((Int.toNat w28) + ((List.length (List.map MFile.av w27)) - (Int.toNat w28))) w27))) then some (List.take ((Int.toNat w28) - 0) (List.take (Int.toNat w28) w27 ++ List.replicate ((List.length (List.map MFile.av w27)) - (Int.toNat w28)) (MFile.mk (0 : Int) ([] : List UInt8) ([] : List UInt8)) ++ List.drop ((Int.toNat w28) + ((List.length (List.map MFile.av w27)) - (Int.toNat w28))) w27)) else none) else none) else none)) FUEL (a0, y1, w64 (y1 + (1 : Int)))))
def i_Disk_drop (a0_0 : Int) (a0_1 : (List MFile)) (a1 : Int) : Option (List MFile) :=
    (Option.bind (g_DeleteFunc_File a0_1 a1) fun y1 => some y1)
def g_Insert_File (a0 : (List MFile)) (a1 : Int) (a2 : (List MFile)) : Option (List MFile) :=
    if 0 ≤ a1 ∧ a1 ≤ (List.length a0 : Int) ∧ 0 < List.length a2 ∧ (List.length a0 + List.length a2) * 40 ≤ 140737488355328 then some (List.take (Int.toNat a1) a0 ++ a2 ++ List.drop (Int.toNat a1) a0) else none
def i_Disk_put_L1 (a0_1 : (List MFile)) (a1 : MFile) (k1_0 : Int → Option (List MFile)) : Nat → Int → Option (List MFile)
  | 0, _ => none
  | n + 1, v6 =>
  (if v6 < (ln (List.map MFile.av a0_1)) then (if 0 ≤ v6 ∧ v6 < (ln (List.map MFile.av a0_1)) then (Option.bind a0_1[(Int.toNat v6)]? fun x9 => (if x9.Name < a1.Name then i_Disk_put_L1 a0_1 a1 k1_0 n (w64 (v6 + (1 : Int))) else k1_0 v6)) else none) else k1_0 v6)
def i_Disk_put (a0_0 : Int) (a0_1 : (List MFile)) (a1 : MFile) : Option (List MFile) :=
    i_Disk_put_L1 a0_1 a1 (fun w12 => (Option.bind (g_Insert_File a0_1 w12 [a1]) fun y13 => some y13)) FUEL (0 : Int)
def i_DiskAppend (a0 : MDisk) (a1 : Int) (a2 : (List UInt8)) : Option (Int × (List MFile) × Int) :=
    (Option.bind (i_DiskOk a0) fun y1 => (if ¬ (y1 = true) then some ((0 : Int), [], (1 : Int)) else (Option.bind (i_isFile a1) fun y4 => (if ¬ (y4 = true) then some ((0 : Int), [], (1 : Int)) else (Option.bind (i_cloneDisk a0) fun y7 => (Option.bind (i_usedRoom a0) fun y9 => (if a0.Room < w64 (y9 + (ln a2)) then some (y7.1, y7.2, (3 : Int)) else (Option.bind (i_fileAt a0 a1) fun y12 => (if y12 < (0 : Int) then (Option.bind (i_Disk_put y7.1 y7.2 (MFile.mk a1 ([] : List UInt8) ([] : List UInt8))) fun y15 => (Option.bind (i_fileAt (MDisk.mk y7.1 y15) a1) fun y17 => (if 0 ≤ y17 ∧ y17 < (ln (List.map MFile.av y15)) then (Option.bind y15[(Int.toNat y17)]? fun x20 => (if List.length x20.Late + List.length a2 ≤ maxLen then some (y7.1, (List.set y15 (Int.toNat y17) (MFile.mk x20.Name x20.Safe (x20.Late ++ a2))), (0 : Int)) else none)) else none))) else (Option.bind (i_fileAt (MDisk.mk y7.1 y7.2) a1) fun y23 => (if 0 ≤ y23 ∧ y23 < (ln (List.map MFile.av y7.2)) then (Option.bind y7.2[(Int.toNat y23)]? fun x26 => (if List.length x26.Late + List.length a2 ≤ maxLen then some (y7.1, (List.set y7.2 (Int.toNat y23) (MFile.mk x26.Name x26.Safe (x26.Late ++ a2))), (0 : Int)) else none)) else none)))))))))))
def i_DiskSync (a0 : MDisk) (a1 : Int) : Option (Int × (List MFile) × Int) :=
    (Option.bind (i_DiskOk a0) fun y1 => (if ¬ (y1 = true) then some ((0 : Int), [], (1 : Int)) else (Option.bind (i_isFile a1) fun y4 => (if ¬ (y4 = true) then some ((0 : Int), [], (1 : Int)) else (Option.bind (i_cloneDisk a0) fun y7 => (Option.bind (i_fileAt a0 a1) fun y9 => (if y9 < (0 : Int) then some (y7.1, y7.2, (2 : Int)) else (if 0 ≤ y9 then (Option.bind a0.Files[(Int.toNat y9)]? fun x13 => (if List.length x13.Safe + List.length x13.Late ≤ maxLen then (if 0 ≤ y9 ∧ y9 < (ln (List.map MFile.av y7.2)) then (Option.bind y7.2[(Int.toNat y9)]? fun x17 => some (y7.1, (List.set y7.2 (Int.toNat y9) (MFile.mk a1 (x13.Safe ++ x13.Late) ([] : List UInt8))), (0 : Int))) else none) else none)) else none))))))))

end Go.Proofs.YtbknlijpkabcnaaGreat.K
