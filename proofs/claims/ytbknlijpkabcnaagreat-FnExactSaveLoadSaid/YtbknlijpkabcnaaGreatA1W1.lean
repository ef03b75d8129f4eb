/- The functions of the program compute the plain functions. No condition. -/
import Derived.Test.YtbknlijpkabcnaaGreatA1W0
namespace Go.Proofs.YtbknlijpkabcnaaGreat.K
set_option linter.all false
open Go

set_option maxRecDepth 20000
set_option maxHeartbeats 4000000

theorem con_s_AccountKind {a0 : (List MAccount)} {a1 : Int} {r0 : Int} (h : s_AccountKind a0 a1 = some r0) : Con Tryz.prog 130 [.sl 2 (List.map MAccount.av a0), .i .i64 a1] [] (.i .i64 r0) [] := by
  refine con_of_awpF hT mixed (fn := Tryz.f130) Tryz.func130 rfl rfl ?_
  unfold s_AccountKind at h
  refine LP.fuel (g := s_AccountKind_L1 a0 a1 _) (fun v9 => ⟨[(0, .sl 2 (List.map MAccount.av a0)), (1, .i .i64 a1), (5, .i .i64 v9)], []⟩) h (fun _ h => by cases h) ?_ ?_
  · exact Exists.intro [] (And.intro rfl (And.intro trivial (And.intro rfl (And.intro rfl (And.intro rfl trivial)))))
  intro n v9 h
  rw [s_AccountKind_L1.eq_2] at h
  refine HY.mk (fun _ => ?_)
  refine PS.ite h (fun h10 h => ?_) (fun h10 h => ?_)
  · refine CK.call false [] h (fun _ h => con_s_AccountsOk h) (And.intro rfl trivial) trivial rfl (fun _ => rfl) (fun _ => Or.inl rfl) (fun y11 h12 h => ?_)
    refine PS.ite h (fun h13 h => ?_) (fun h13 h => ?_)
    · refine OB.grd h (fun h14 h => ?_)
      refine EX.get h (fun x15 h16 h => ?_)
      refine PS.ite h (fun h17 h => ?_) (fun h17 h => ?_)
      · refine OB.mk h14 ?_
        refine EX.pos h16 ?_
        exact lf1 h fun e0 => Exists.intro [] (And.intro rfl (And.intro trivial e0))
      refine NX.next h ?_
      exact Exists.intro [] (And.intro rfl (And.intro trivial (And.intro rfl (And.intro rfl (And.intro rfl trivial)))))
    exact lf1 h fun e0 => Exists.intro [] (And.intro rfl (And.intro trivial e0))
  exact lf1 h fun e0 => Exists.intro [] (And.intro rfl (And.intro trivial e0))
theorem con_s_InstrKind {a0 : (List MInstr)} {a1 : Int} {r0 : Int} (h : s_InstrKind a0 a1 = some r0) : Con Tryz.prog 131 [.sl 2 (List.map MInstr.av a0), .i .i64 a1] [] (.i .i64 r0) [] := by
  refine con_of_awpF hT mixed (fn := Tryz.f131) Tryz.func131 rfl rfl ?_
  unfold s_InstrKind at h
  refine LP.fuel (g := s_InstrKind_L1 a0 a1 _) (fun v9 => ⟨[(0, .sl 2 (List.map MInstr.av a0)), (1, .i .i64 a1), (5, .i .i64 v9)], []⟩) h (fun _ h => by cases h) ?_ ?_
  · exact Exists.intro [] (And.intro rfl (And.intro trivial (And.intro rfl (And.intro rfl (And.intro rfl trivial)))))
  intro n v9 h
  rw [s_InstrKind_L1.eq_2] at h
  refine HY.mk (fun _ => ?_)
  refine PS.ite h (fun h10 h => ?_) (fun h10 h => ?_)
  · refine CK.call false [] h (fun _ h => con_s_InstrsOk h) (And.intro rfl trivial) trivial rfl (fun _ => rfl) (fun _ => Or.inl rfl) (fun y11 h12 h => ?_)
    refine PS.ite h (fun h13 h => ?_) (fun h13 h => ?_)
    · refine OB.grd h (fun h14 h => ?_)
      refine EX.get h (fun x15 h16 h => ?_)
      refine PS.ite h (fun h17 h => ?_) (fun h17 h => ?_)
      · refine OB.mk h14 ?_
        refine EX.pos h16 ?_
        exact lf1 h fun e0 => Exists.intro [] (And.intro rfl (And.intro trivial e0))
      refine NX.next h ?_
      exact Exists.intro [] (And.intro rfl (And.intro trivial (And.intro rfl (And.intro rfl (And.intro rfl trivial)))))
    exact lf1 h fun e0 => Exists.intro [] (And.intro rfl (And.intro trivial e0))
  exact lf1 h fun e0 => Exists.intro [] (And.intro rfl (And.intro trivial e0))
theorem con_s_l1Told {a0 : Int} {a1 : Bool} {r0 : Int} {r1 : Bool} (h : s_l1Told a0 a1 = some (r0, r1)) : Con Tryz.prog 189 [.i .i64 a0, .p (a1 = true)] [] (.tup [.i .i64 r0, .p (r1 = true)]) [] := by
  refine con_of_awpF hT mixed (fn := Tryz.f189) Tryz.func189 rfl rfl ?_
  unfold s_l1Told at h
  refine PS.ite h (fun h1 h => ?_) (fun h1 h => ?_)
  · exact lf2 h fun e0 e1 => Exists.intro [] (And.intro rfl (And.intro trivial (And.intro e0 (And.intro (be e1) trivial))))
  refine CK.call false [] h (fun _ h => con_s_AmountOk h) (And.intro rfl trivial) trivial rfl (fun _ => rfl) (fun _ => Or.inl rfl) (fun y2 h3 h => ?_)
  refine PS.ite h (fun h4 h => ?_) (fun h4 h => ?_)
  · exact lf2 h fun e0 e1 => Exists.intro [] (And.intro rfl (And.intro trivial (And.intro e0 (And.intro (be e1) trivial))))
  exact lf2 h fun e0 e1 => Exists.intro [] (And.intro rfl (And.intro trivial (And.intro e0 (And.intro (be e1) trivial))))
theorem con_s_BalsSum {a0 : (List MBal)} {a1 : Int} {r0 : Int} {r1 : Bool} (h : s_BalsSum a0 a1 = some (r0, r1)) : Con Tryz.prog 165 [.sl 3 (List.map MBal.av a0), .i .i64 a1] [] (.tup [.i .i64 r0, .p (r1 = true)]) [] := by
  refine con_of_awpF hT mixed (fn := Tryz.f165) Tryz.func165 rfl rfl ?_
  unfold s_BalsSum at h
  refine LP.fuel (g := s_BalsSum_L1 a0 a1 _) (fun (v9, v10) => ⟨[(0, .sl 3 (List.map MBal.av a0)), (1, .i .i64 a1), (6, .i .i64 v9), (7, .i .i64 v10)], []⟩) h (fun _ h => by cases h) ?_ ?_
  · exact Exists.intro [] (And.intro rfl (And.intro trivial (And.intro rfl (And.intro rfl (And.intro rfl (And.intro rfl trivial))))))
  intro n v h
  obtain ⟨v9, v10⟩ := v
  rw [s_BalsSum_L1.eq_2] at h
  refine HY.mk (fun _ => ?_)
  refine PS.ite h (fun h11 h => ?_) (fun h11 h => ?_)
  · refine CK.call false [] h (fun _ h => con_s_BalsOk h) (And.intro rfl trivial) trivial rfl (fun _ => rfl) (fun _ => Or.inl rfl) (fun y12 h13 h => ?_)
    refine PS.ite h (fun h14 h => ?_) (fun h14 h => ?_)
    · refine OB.grd h (fun h15 h => ?_)
      refine EX.get h (fun x16 h17 h => ?_)
      refine PS.ite h (fun h18 h => ?_) (fun h18 h => ?_)
      · refine OB.mk h15 ?_
        refine EX.pos h17 ?_
        refine NX.next h ?_
        exact Exists.intro [] (And.intro rfl (And.intro trivial (And.intro rfl (And.intro rfl (And.intro rfl (And.intro rfl trivial))))))
      refine NX.next h ?_
      exact Exists.intro [] (And.intro rfl (And.intro trivial (And.intro rfl (And.intro rfl (And.intro rfl (And.intro rfl trivial))))))
    refine CK.call false [] h (fun _ h => con_s_BalsOk h) (And.intro rfl trivial) trivial rfl (fun _ => rfl) (fun _ => Or.inl rfl) (fun y20 h21 h => ?_)
    refine CK.call false [] h (fun _ h => con_s_l1Told h) (And.intro rfl (And.intro Iff.rfl trivial)) trivial rfl (fun _ => rfl) (fun _ => Or.inl rfl) (fun y22 h23 h => ?_)
    exact lf2 h fun e0 e1 => Exists.intro [] (And.intro rfl (And.intro trivial (And.intro e0 (And.intro (be e1) trivial))))
  refine CK.call false [] h (fun _ h => con_s_BalsOk h) (And.intro rfl trivial) trivial rfl (fun _ => rfl) (fun _ => Or.inl rfl) (fun y20 h21 h => ?_)
  refine CK.call false [] h (fun _ h => con_s_l1Told h) (And.intro rfl (And.intro Iff.rfl trivial)) trivial rfl (fun _ => rfl) (fun _ => Or.inl rfl) (fun y22 h23 h => ?_)
  exact lf2 h fun e0 e1 => Exists.intro [] (And.intro rfl (And.intro trivial (And.intro e0 (And.intro (be e1) trivial))))
theorem con_s_l6Bals {a0 : MBooks} {r0 : Bool} (h : s_l6Bals a0 = some r0) : Con Tryz.prog 128 [.agg [.sl 2 (List.map MAccount.av a0.Accounts), .sl 2 (List.map MInstr.av a0.Instrs), .sl 3 (List.map MBal.av a0.Bals), .sl 5 (List.map MLot.av a0.Lots), .sl 8 (List.map MTrade.av a0.Trades), .i .i64 a0.Lot]] [] (.p (r0 = true)) [] := by
  refine con_of_awpF hT mixed (fn := Tryz.f128) Tryz.func128 rfl rfl ?_
  unfold s_l6Bals at h
  refine LP.fuel (g := s_l6Bals_L1 a0 _) (fun v21 => ⟨[(1, .ptr 0 0), (3, .i .i64 v21)], [some (.box [.sl 2 (List.map MAccount.av a0.Accounts), .sl 2 (List.map MInstr.av a0.Instrs), .sl 3 (List.map MBal.av a0.Bals), .sl 5 (List.map MLot.av a0.Lots), .sl 8 (List.map MTrade.av a0.Trades), .i .i64 a0.Lot])]⟩) h (fun _ h => by cases h) ?_ ?_
  · exact Exists.intro [.id 0] (And.intro rfl (And.intro (And.intro (And.intro rfl (And.intro rfl (And.intro rfl (And.intro rfl (And.intro rfl (And.intro rfl trivial)))))) trivial) (And.intro trivial (And.intro rfl trivial))))
  intro n v21 h
  rw [s_l6Bals_L1.eq_2] at h
  refine HY.mk (fun _ => ?_)
  refine PS.ite h (fun h22 h => ?_) (fun h22 h => ?_)
  · refine OB.grd h (fun h23 h => ?_)
    refine EX.get h (fun x24 h25 h => ?_)
    refine CK.call false [] h (fun _ h => con_s_AccountKind h) (And.intro rfl (And.intro rfl trivial)) trivial rfl (fun _ => rfl) (fun _ => Or.inl rfl) (fun y26 h27 h => ?_)
    refine PS.ite h (fun h28 h => ?_) (fun h28 h => ?_)
    · exact lf1 h fun e0 => Exists.intro [] (And.intro rfl (And.intro trivial (be e0)))
    refine CK.call false [] h (fun _ h => con_s_InstrKind h) (And.intro rfl (And.intro rfl trivial)) trivial rfl (fun _ => rfl) (fun _ => Or.inl rfl) (fun y29 h30 h => ?_)
    refine PS.ite h (fun h31 h => ?_) (fun h31 h => ?_)
    · exact lf1 h fun e0 => Exists.intro [] (And.intro rfl (And.intro trivial (be e0)))
    refine PS.ite h (fun h32 h => ?_) (fun h32 h => ?_)
    · refine PS.ite h (fun h33 h => ?_) (fun h33 h => ?_)
      · exact lf1 h fun e0 => Exists.intro [] (And.intro rfl (And.intro trivial (be e0)))
      refine CK.call false [] h (fun _ h => con_s_BalsSum h) (And.intro rfl (And.intro rfl trivial)) trivial rfl (fun _ => rfl) (fun _ => Or.inl rfl) (fun y34 h35 h => ?_)
      refine PS.ite h (fun h36 h => ?_) (fun h36 h => ?_)
      · exact lf1 h fun e0 => Exists.intro [] (And.intro rfl (And.intro trivial (be e0)))
      refine PS.ite h (fun h37 h => ?_) (fun h37 h => ?_)
      · exact lf1 h fun e0 => Exists.intro [] (And.intro rfl (And.intro trivial (be e0)))
      refine NX.next h ?_
      exact Exists.intro [.id 0] (And.intro rfl (And.intro (And.intro (And.intro rfl (And.intro rfl (And.intro rfl (And.intro rfl (And.intro rfl (And.intro rfl trivial)))))) trivial) (And.intro trivial (And.intro rfl trivial))))
    refine CK.call false [] h (fun _ h => con_s_BalsSum h) (And.intro rfl (And.intro rfl trivial)) trivial rfl (fun _ => rfl) (fun _ => Or.inl rfl) (fun y38 h39 h => ?_)
    refine PS.ite h (fun h40 h => ?_) (fun h40 h => ?_)
    · exact lf1 h fun e0 => Exists.intro [] (And.intro rfl (And.intro trivial (be e0)))
    refine PS.ite h (fun h41 h => ?_) (fun h41 h => ?_)
    · exact lf1 h fun e0 => Exists.intro [] (And.intro rfl (And.intro trivial (be e0)))
    refine NX.next h ?_
    exact Exists.intro [.id 0] (And.intro rfl (And.intro (And.intro (And.intro rfl (And.intro rfl (And.intro rfl (And.intro rfl (And.intro rfl (And.intro rfl trivial)))))) trivial) (And.intro trivial (And.intro rfl trivial))))
  exact lf1 h fun e0 => Exists.intro [] (And.intro rfl (And.intro trivial (be e0)))
theorem con_s_l5Split {a0 : (List MLot)} {a1 : Int} {a2 : Int} {r0 : (List MLot)} {r1 : (List MLot)} (h : s_l5Split a0 a1 a2 = some (r0, r1)) : Con Tryz.prog 166 [.sl 5 (List.map MLot.av a0), .i .i64 a1, .i .i64 a2] [] (.tup [.own 0, .own 1]) [some (.arr 5 (List.map MLot.av r0)), some (.arr 5 (List.map MLot.av r1))] := by
  refine con_of_awpF hT mixed (fn := Tryz.f166) Tryz.func166 rfl rfl ?_
  unfold s_l5Split at h
  refine RN.to (List.map MLot.av ([] : List MLot)) rfl ?_
  refine RN.to (List.map MLot.av ([] : List MLot)) rfl ?_
  refine LP.fuel (g := s_l5Split_L1 a0 a1 a2 _) (fun (v10, v11, v12) => ⟨[(0, .sl 5 (List.map MLot.av a0)), (1, .i .i64 a1), (2, .i .i64 a2), (8, .own 0), (9, .own 1), (10, .i .i64 v12)], [some (.arr 5 (List.map MLot.av v10)), some (.arr 5 (List.map MLot.av v11))]⟩) h (fun _ h => by cases h) ?_ ?_
  · exact Exists.intro [.id 32, .id 48] (And.intro rfl (And.intro (And.intro rfl (And.intro rfl trivial)) (And.intro rfl (And.intro rfl (And.intro rfl (And.intro trivial (And.intro trivial (And.intro rfl trivial))))))))
  intro n v h
  obtain ⟨v10, v11, v12⟩ := v
  rw [s_l5Split_L1.eq_2] at h
  refine HY.mk (fun _ => ?_)
  refine PS.ite h (fun h13 h => ?_) (fun h13 h => ?_)
  · refine OB.grd h (fun h14 h => ?_)
    refine EX.get h (fun x15 h16 h => ?_)
    refine PS.ite h (fun h17 h => ?_) (fun h17 h => ?_)
    · refine OB.mk h14 ?_
      refine EX.pos h16 ?_
      refine PS.ite h (fun h18 h => ?_) (fun h18 h => ?_)
      · refine OB.mk h14 ?_
        refine EX.pos h16 ?_
        refine RN.to (List.map MLot.av [x15]) rfl ?_
        refine OB.app (enc := MLot.av) (l := [x15]) rfl (fun _ => rfl) h (fun h19 h => ?_)
        refine RN.to (List.map MLot.av (v10 ++ [x15])) List.map_append.symm ?_
        refine NX.next h ?_
        exact Exists.intro [.id 418, .id 1] (And.intro rfl (And.intro (And.intro rfl (And.intro rfl trivial)) (And.intro rfl (And.intro rfl (And.intro rfl (And.intro trivial (And.intro trivial (And.intro rfl trivial))))))))
      refine OB.mk h14 ?_
      refine EX.pos h16 ?_
      refine RN.to (List.map MLot.av [x15]) rfl ?_
      refine OB.app (enc := MLot.av) (l := [x15]) rfl (fun _ => rfl) h (fun h20 h => ?_)
      refine RN.to (List.map MLot.av (v11 ++ [x15])) List.map_append.symm ?_
      refine NX.next h ?_
      exact Exists.intro [.id 0, .id 418] (And.intro rfl (And.intro (And.intro rfl (And.intro rfl trivial)) (And.intro rfl (And.intro rfl (And.intro rfl (And.intro trivial (And.intro trivial (And.intro rfl trivial))))))))
    refine OB.mk h14 ?_
    refine EX.pos h16 ?_
    refine RN.to (List.map MLot.av [x15]) rfl ?_
    refine OB.app (enc := MLot.av) (l := [x15]) rfl (fun _ => rfl) h (fun h21 h => ?_)
    refine RN.to (List.map MLot.av (v11 ++ [x15])) List.map_append.symm ?_
    refine NX.next h ?_
    exact Exists.intro [.id 0, .id 418] (And.intro rfl (And.intro (And.intro rfl (And.intro rfl trivial)) (And.intro rfl (And.intro rfl (And.intro rfl (And.intro trivial (And.intro trivial (And.intro rfl trivial))))))))
  exact lf2 h fun e0 e1 => Exists.intro [.id 0, .id 1] (And.intro rfl (And.intro (And.intro (mpe e0) (And.intro (mpe e1) trivial)) (And.intro trivial (And.intro trivial trivial))))
theorem con_s_l5Qty {a0 : (List MLot)} {r0 : Int} (h : s_l5Qty a0 = some r0) : Con Tryz.prog 167 [.sl 5 (List.map MLot.av a0)] [] (.i .i64 r0) [] := by
  refine con_of_awpF hT mixed (fn := Tryz.f167) Tryz.func167 rfl rfl ?_
  unfold s_l5Qty at h
  refine LP.fuel (g := s_l5Qty_L1 a0 _) (fun (v5, v6) => ⟨[(0, .sl 5 (List.map MLot.av a0)), (3, .i .i64 v5), (4, .i .i64 v6)], []⟩) h (fun _ h => by cases h) ?_ ?_
  · exact Exists.intro [] (And.intro rfl (And.intro trivial (And.intro rfl (And.intro rfl (And.intro rfl trivial)))))
  intro n v h
  obtain ⟨v5, v6⟩ := v
  rw [s_l5Qty_L1.eq_2] at h
  refine HY.mk (fun _ => ?_)
  refine PS.ite h (fun h7 h => ?_) (fun h7 h => ?_)
  · refine OB.grd h (fun h8 h => ?_)
    refine EX.get h (fun x9 h10 h => ?_)
    refine NX.next h ?_
    exact Exists.intro [] (And.intro rfl (And.intro trivial (And.intro rfl (And.intro rfl (And.intro rfl trivial)))))
  exact lf1 h fun e0 => Exists.intro [] (And.intro rfl (And.intro trivial e0))
theorem con_s_l4Of {a0 : (List MBal)} {a1 : Int} {a2 : Int} {r0 : Int} (h : s_l4Of a0 a1 a2 = some r0) : Con Tryz.prog 168 [.sl 3 (List.map MBal.av a0), .i .i64 a1, .i .i64 a2] [] (.i .i64 r0) [] := by
  refine con_of_awpF hT mixed (fn := Tryz.f168) Tryz.func168 rfl rfl ?_
  unfold s_l4Of at h
  refine LP.fuel (g := s_l4Of_L1 a0 a1 a2 _) (fun v7 => ⟨[(0, .sl 3 (List.map MBal.av a0)), (1, .i .i64 a1), (2, .i .i64 a2), (7, .i .i64 v7)], []⟩) h (fun _ h => by cases h) ?_ ?_
  · exact Exists.intro [] (And.intro rfl (And.intro trivial (And.intro rfl (And.intro rfl (And.intro rfl (And.intro rfl trivial))))))
  intro n v7 h
  rw [s_l4Of_L1.eq_2] at h
  refine HY.mk (fun _ => ?_)
  refine PS.ite h (fun h8 h => ?_) (fun h8 h => ?_)
  · refine OB.grd h (fun h9 h => ?_)
    refine EX.get h (fun x10 h11 h => ?_)
    refine PS.ite h (fun h12 h => ?_) (fun h12 h => ?_)
    · refine OB.mk h9 ?_
      refine EX.pos h11 ?_
      refine PS.ite h (fun h13 h => ?_) (fun h13 h => ?_)
      · refine OB.mk h9 ?_
        refine EX.pos h11 ?_
        exact lf1 h fun e0 => Exists.intro [] (And.intro rfl (And.intro trivial e0))
      refine NX.next h ?_
      exact Exists.intro [] (And.intro rfl (And.intro trivial (And.intro rfl (And.intro rfl (And.intro rfl (And.intro rfl trivial))))))
    refine NX.next h ?_
    exact Exists.intro [] (And.intro rfl (And.intro trivial (And.intro rfl (And.intro rfl (And.intro rfl (And.intro rfl trivial))))))
  exact lf1 h fun e0 => Exists.intro [] (And.intro rfl (And.intro trivial e0))
theorem con_s_l6Lots {a0 : MBooks} {r0 : Bool} (h : s_l6Lots a0 = some r0) : Con Tryz.prog 129 [.agg [.sl 2 (List.map MAccount.av a0.Accounts), .sl 2 (List.map MInstr.av a0.Instrs), .sl 3 (List.map MBal.av a0.Bals), .sl 5 (List.map MLot.av a0.Lots), .sl 8 (List.map MTrade.av a0.Trades), .i .i64 a0.Lot]] [] (.p (r0 = true)) [] := by
  refine con_of_awpF hT mixed (fn := Tryz.f129) Tryz.func129 rfl rfl ?_
  unfold s_l6Lots at h
  refine LP.fuel (g := s_l6Lots_L1 a0 _) (fun v12 => ⟨[(1, .ptr 0 0), (3, .i .i64 v12), (64, .tup []), (65, .tup []), (66, .tup []), (67, .tup []), (68, .tup []), (69, .tup []), (70, .tup [])], [some (.box [.sl 2 (List.map MAccount.av a0.Accounts), .sl 2 (List.map MInstr.av a0.Instrs), .sl 3 (List.map MBal.av a0.Bals), .sl 5 (List.map MLot.av a0.Lots), .sl 8 (List.map MTrade.av a0.Trades), .i .i64 a0.Lot])]⟩) h (fun _ h => by cases h) ?_ ?_
  · exact Exists.intro [.id 0] (And.intro rfl (And.intro (And.intro (And.intro rfl (And.intro rfl (And.intro rfl (And.intro rfl (And.intro rfl (And.intro rfl trivial)))))) trivial) (And.intro trivial (And.intro rfl (And.intro trivial (And.intro trivial (And.intro trivial (And.intro trivial (And.intro trivial (And.intro trivial (And.intro trivial trivial)))))))))))
  intro n v12 h
  rw [s_l6Lots_L1.eq_2] at h
  refine HY.mk (fun _ => ?_)
  refine PS.ite h (fun h13 h => ?_) (fun h13 h => ?_)
  · refine OB.grd h (fun h14 h => ?_)
    refine EX.get h (fun x15 h16 h => ?_)
    refine CK.call false [] h (fun _ h => con_s_AccountKind h) (And.intro rfl (And.intro rfl trivial)) trivial rfl (fun _ => rfl) (fun _ => Or.inl rfl) (fun y17 h18 h => ?_)
    refine PS.ite h (fun h19 h => ?_) (fun h19 h => ?_)
    · exact lf1 h fun e0 => Exists.intro [] (And.intro rfl (And.intro trivial (be e0)))
    refine CK.call false [] h (fun _ h => con_s_InstrKind h) (And.intro rfl (And.intro rfl trivial)) trivial rfl (fun _ => rfl) (fun _ => Or.inl rfl) (fun y20 h21 h => ?_)
    refine PS.ite h (fun h22 h => ?_) (fun h22 h => ?_)
    · exact lf1 h fun e0 => Exists.intro [] (And.intro rfl (And.intro trivial (be e0)))
    refine PS.ite h (fun h23 h => ?_) (fun h23 h => ?_)
    · exact lf1 h fun e0 => Exists.intro [] (And.intro rfl (And.intro trivial (be e0)))
    refine NX.next h ?_
    exact Exists.intro [.id 0] (And.intro rfl (And.intro (And.intro (And.intro rfl (And.intro rfl (And.intro rfl (And.intro rfl (And.intro rfl (And.intro rfl trivial)))))) trivial) (And.intro trivial (And.intro rfl (And.intro trivial (And.intro trivial (And.intro trivial (And.intro trivial (And.intro trivial (And.intro trivial (And.intro trivial trivial)))))))))))
  refine LP.fuel (g := s_l6Lots_L2 a0 _) (fun v57 => ⟨[(1, .ptr 0 0), (5, .i .i64 v57)], [some (.box [.sl 2 (List.map MAccount.av a0.Accounts), .sl 2 (List.map MInstr.av a0.Instrs), .sl 3 (List.map MBal.av a0.Bals), .sl 5 (List.map MLot.av a0.Lots), .sl 8 (List.map MTrade.av a0.Trades), .i .i64 a0.Lot])]⟩) h (fun _ h => by cases h) ?_ ?_
  · exact Exists.intro [.id 0] (And.intro rfl (And.intro (And.intro (And.intro rfl (And.intro rfl (And.intro rfl (And.intro rfl (And.intro rfl (And.intro rfl trivial)))))) trivial) (And.intro trivial (And.intro rfl trivial))))
  intro n v57 h
  rw [s_l6Lots_L2.eq_2] at h
  refine HY.mk (fun _ => ?_)
  refine PS.ite h (fun h58 h => ?_) (fun h58 h => ?_)
  · refine LP.fuel (g := s_l6Lots_L3 a0 v57 _) (fun v75 => ⟨[(1, .ptr 0 0), (5, .i .i64 v57), (6, .i .i64 v75)], [some (.box [.sl 2 (List.map MAccount.av a0.Accounts), .sl 2 (List.map MInstr.av a0.Instrs), .sl 3 (List.map MBal.av a0.Bals), .sl 5 (List.map MLot.av a0.Lots), .sl 8 (List.map MTrade.av a0.Trades), .i .i64 a0.Lot])]⟩) h (fun _ h => by cases h) ?_ ?_
    · exact Exists.intro [.id 0] (And.intro rfl (And.intro (And.intro (And.intro rfl (And.intro rfl (And.intro rfl (And.intro rfl (And.intro rfl (And.intro rfl trivial)))))) trivial) (And.intro trivial (And.intro rfl (And.intro rfl trivial)))))
    intro n v75 h
    rw [s_l6Lots_L3.eq_2] at h
    refine HY.mk (fun _ => ?_)
    refine PS.ite h (fun h76 h => ?_) (fun h76 h => ?_)
    · refine OB.grd h (fun h77 h => ?_)
      refine EX.get h (fun x78 h79 h => ?_)
      refine PS.ite h (fun h80 h => ?_) (fun h80 h => ?_)
      · refine OB.grd h (fun h81 h => ?_)
        refine EX.get h (fun x82 h83 h => ?_)
        refine PS.ite h (fun h84 h => ?_) (fun h84 h => ?_)
        · refine OB.mk h77 ?_
          refine EX.pos h79 ?_
          refine OB.mk h81 ?_
          refine EX.pos h83 ?_
          refine CK.call false [] h (fun _ h => con_s_l5Split h) (And.intro rfl (And.intro rfl (And.intro rfl trivial))) trivial rfl (fun _ => rfl) (fun _ => Or.inl rfl) (fun y85 h86 h => ?_)
          refine RN.mk ?_
          refine RN.mk ?_
          refine OB.mk (by kernel_rfl) ?_
          refine CK.call false [] h (fun _ h => con_s_l5Qty h) (And.intro rfl trivial) trivial rfl (fun _ => rfl) (fun _ => Or.inr (Flat.mk rfl trivial)) (fun y87 h88 h => ?_)
          refine OB.mk h77 ?_
          refine EX.pos h79 ?_
          refine OB.mk h81 ?_
          refine EX.pos h83 ?_
          refine CK.call false [] h (fun _ h => con_s_l4Of h) (And.intro rfl (And.intro rfl (And.intro rfl trivial))) trivial rfl (fun _ => rfl) (fun _ => Or.inl rfl) (fun y89 h90 h => ?_)
          refine OB.mk (by kernel_rfl) ?_
          refine PS.ite h (fun h91 h => ?_) (fun h91 h => ?_)
          · exact lf1 h fun e0 => Exists.intro [] (And.intro rfl (And.intro trivial (be e0)))
          refine NX.next h ?_
          exact Exists.intro [.id 0] (And.intro rfl (And.intro (And.intro (And.intro rfl (And.intro rfl (And.intro rfl (And.intro rfl (And.intro rfl (And.intro rfl trivial)))))) trivial) (And.intro trivial (And.intro rfl (And.intro rfl trivial)))))
        refine NX.next h ?_
        exact Exists.intro [.id 0] (And.intro rfl (And.intro (And.intro (And.intro rfl (And.intro rfl (And.intro rfl (And.intro rfl (And.intro rfl (And.intro rfl trivial)))))) trivial) (And.intro trivial (And.intro rfl (And.intro rfl trivial)))))
      refine NX.next h ?_
      exact Exists.intro [.id 0] (And.intro rfl (And.intro (And.intro (And.intro rfl (And.intro rfl (And.intro rfl (And.intro rfl (And.intro rfl (And.intro rfl trivial)))))) trivial) (And.intro trivial (And.intro rfl (And.intro rfl trivial)))))
    refine NX.next h ?_
    exact Exists.intro [.id 0] (And.intro rfl (And.intro (And.intro (And.intro rfl (And.intro rfl (And.intro rfl (And.intro rfl (And.intro rfl (And.intro rfl trivial)))))) trivial) (And.intro trivial (And.intro rfl trivial))))
  exact lf1 h fun e0 => Exists.intro [] (And.intro rfl (And.intro trivial (be e0)))
theorem con_s_BooksOk {a0 : MBooks} {r0 : Bool} (h : s_BooksOk a0 = some r0) : Con Tryz.prog 64 [.agg [.sl 2 (List.map MAccount.av a0.Accounts), .sl 2 (List.map MInstr.av a0.Instrs), .sl 3 (List.map MBal.av a0.Bals), .sl 5 (List.map MLot.av a0.Lots), .sl 8 (List.map MTrade.av a0.Trades), .i .i64 a0.Lot]] [] (.p (r0 = true)) [] := by
  refine con_of_awpF hT mixed (fn := Tryz.f64) Tryz.func64 rfl rfl ?_
  unfold s_BooksOk at h
  refine CK.call false [] h (fun _ h => con_s_AccountsOk h) (And.intro rfl trivial) trivial rfl (fun _ => rfl) (fun _ => Or.inl rfl) (fun y1 h2 h => ?_)
  refine PS.ite h (fun h3 h => ?_) (fun h3 h => ?_)
  · exact lf1 h fun e0 => Exists.intro [] (And.intro rfl (And.intro trivial (be e0)))
  refine CK.call false [] h (fun _ h => con_s_InstrsOk h) (And.intro rfl trivial) trivial rfl (fun _ => rfl) (fun _ => Or.inl rfl) (fun y4 h5 h => ?_)
  refine PS.ite h (fun h6 h => ?_) (fun h6 h => ?_)
  · exact lf1 h fun e0 => Exists.intro [] (And.intro rfl (And.intro trivial (be e0)))
  refine CK.call false [] h (fun _ h => con_s_BalsOk h) (And.intro rfl trivial) trivial rfl (fun _ => rfl) (fun _ => Or.inl rfl) (fun y7 h8 h => ?_)
  refine PS.ite h (fun h9 h => ?_) (fun h9 h => ?_)
  · exact lf1 h fun e0 => Exists.intro [] (And.intro rfl (And.intro trivial (be e0)))
  refine CK.call false [] h (fun _ h => con_s_LotsOk h) (And.intro rfl trivial) trivial rfl (fun _ => rfl) (fun _ => Or.inl rfl) (fun y10 h11 h => ?_)
  refine PS.ite h (fun h12 h => ?_) (fun h12 h => ?_)
  · exact lf1 h fun e0 => Exists.intro [] (And.intro rfl (And.intro trivial (be e0)))
  refine CK.call false [] h (fun _ h => con_s_TradesOk h) (And.intro rfl trivial) trivial rfl (fun _ => rfl) (fun _ => Or.inl rfl) (fun y13 h14 h => ?_)
  refine PS.ite h (fun h15 h => ?_) (fun h15 h => ?_)
  · exact lf1 h fun e0 => Exists.intro [] (And.intro rfl (And.intro trivial (be e0)))
  refine CK.call false [] h (fun _ h => con_s_l1In h) (And.intro rfl (And.intro rfl (And.intro rfl trivial))) trivial rfl (fun _ => rfl) (fun _ => Or.inl rfl) (fun y16 h17 h => ?_)
  refine PS.ite h (fun h18 h => ?_) (fun h18 h => ?_)
  · exact lf1 h fun e0 => Exists.intro [] (And.intro rfl (And.intro trivial (be e0)))
  refine CK.call false [] h (fun _ h => con_s_l6Bals h) (And.intro (And.intro rfl (And.intro rfl (And.intro rfl (And.intro rfl (And.intro rfl (And.intro rfl trivial)))))) trivial) trivial rfl (fun _ => rfl) (fun _ => Or.inl rfl) (fun y19 h20 h => ?_)
  refine PS.ite h (fun h21 h => ?_) (fun h21 h => ?_)
  · exact lf1 h fun e0 => Exists.intro [] (And.intro rfl (And.intro trivial (be e0)))
  refine CK.call false [] h (fun _ h => con_s_l6Lots h) (And.intro (And.intro rfl (And.intro rfl (And.intro rfl (And.intro rfl (And.intro rfl (And.intro rfl trivial)))))) trivial) trivial rfl (fun _ => rfl) (fun _ => Or.inl rfl) (fun y22 h23 h => ?_)
  refine PS.ite h (fun h24 h => ?_) (fun h24 h => ?_)
  · exact lf1 h fun e0 => Exists.intro [] (And.intro rfl (And.intro trivial (be e0)))
  refine LP.fuel (g := s_BooksOk_L1 a0 _) (fun v41 => ⟨[(1, .ptr 0 0), (3, .i .i64 v41)], [some (.box [.sl 2 (List.map MAccount.av a0.Accounts), .sl 2 (List.map MInstr.av a0.Instrs), .sl 3 (List.map MBal.av a0.Bals), .sl 5 (List.map MLot.av a0.Lots), .sl 8 (List.map MTrade.av a0.Trades), .i .i64 a0.Lot])]⟩) h (fun _ h => by cases h) ?_ ?_
  · exact Exists.intro [.id 0] (And.intro rfl (And.intro (And.intro (And.intro rfl (And.intro rfl (And.intro rfl (And.intro rfl (And.intro rfl (And.intro rfl trivial)))))) trivial) (And.intro trivial (And.intro rfl trivial))))
  intro n v41 h
  rw [s_BooksOk_L1.eq_2] at h
  refine HY.mk (fun _ => ?_)
  refine PS.ite h (fun h42 h => ?_) (fun h42 h => ?_)
  · refine OB.grd h (fun h43 h => ?_)
    refine EX.get h (fun x44 h45 h => ?_)
    refine CK.call false [] h (fun _ h => con_s_AccountKind h) (And.intro rfl (And.intro rfl trivial)) trivial rfl (fun _ => rfl) (fun _ => Or.inl rfl) (fun y46 h47 h => ?_)
    refine PS.ite h (fun h48 h => ?_) (fun h48 h => ?_)
    · exact lf1 h fun e0 => Exists.intro [] (And.intro rfl (And.intro trivial (be e0)))
    refine CK.call false [] h (fun _ h => con_s_AccountKind h) (And.intro rfl (And.intro rfl trivial)) trivial rfl (fun _ => rfl) (fun _ => Or.inl rfl) (fun y49 h50 h => ?_)
    refine PS.ite h (fun h51 h => ?_) (fun h51 h => ?_)
    · exact lf1 h fun e0 => Exists.intro [] (And.intro rfl (And.intro trivial (be e0)))
    refine CK.call false [] h (fun _ h => con_s_InstrKind h) (And.intro rfl (And.intro rfl trivial)) trivial rfl (fun _ => rfl) (fun _ => Or.inl rfl) (fun y52 h53 h => ?_)
    refine PS.ite h (fun h54 h => ?_) (fun h54 h => ?_)
    · exact lf1 h fun e0 => Exists.intro [] (And.intro rfl (And.intro trivial (be e0)))
    refine CK.call false [] h (fun _ h => con_s_InstrKind h) (And.intro rfl (And.intro rfl trivial)) trivial rfl (fun _ => rfl) (fun _ => Or.inl rfl) (fun y55 h56 h => ?_)
    refine PS.ite h (fun h57 h => ?_) (fun h57 h => ?_)
    · exact lf1 h fun e0 => Exists.intro [] (And.intro rfl (And.intro trivial (be e0)))
    refine NX.next h ?_
    exact Exists.intro [.id 0] (And.intro rfl (And.intro (And.intro (And.intro rfl (And.intro rfl (And.intro rfl (And.intro rfl (And.intro rfl (And.intro rfl trivial)))))) trivial) (And.intro trivial (And.intro rfl trivial))))
  exact lf1 h fun e0 => Exists.intro [] (And.intro rfl (And.intro trivial (be e0)))
theorem con_s_BooksRead {a0 : (List UInt8)} {r0 : (List MAccount)} {r1 : (List MInstr)} {r2 : (List MBal)} {r3 : (List MLot)} {r4 : (List MTrade)} {r5 : Int} {r6 : Bool} (h : s_BooksRead a0 = some (r0, r1, r2, r3, r4, r5, r6)) : Con Tryz.prog 27 [.sl 1 (List.map u8 a0)] [] (.tup [.agg [.own 0, .own 1, .own 2, .own 3, .own 4, .i .i64 r5], .p (r6 = true)]) [some (.arr 2 (List.map MAccount.av r0)), some (.arr 2 (List.map MInstr.av r1)), some (.arr 3 (List.map MBal.av r2)), some (.arr 5 (List.map MLot.av r3)), some (.arr 8 (List.map MTrade.av r4))] := by
  refine con_of_awpF hT mixed (fn := Tryz.f27) Tryz.func27 rfl rfl ?_
  unfold s_BooksRead at h
  refine RN.to (List.map iv [(2 : Int), (2 : Int), (3 : Int), (5 : Int), (8 : Int)]) rfl ?_
  refine RN.to (List.map iv [(20 : Int), (8 : Int), (160 : Int), (120 : Int), (30 : Int)]) rfl ?_
  refine LP.fuel (g := s_BooksRead_L1 a0 _) (fun (v170, v171, v172, v173, v174, v175, v176) => ⟨[(0, .sl 1 (List.map u8 a0)), (2, .ptr 0 0), (4, .ptr 1 0), (5, .i .i64 v175), (6, .own 7), (7, .own 8), (8, .i .i64 v176), (167, .tup []), (168, .tup []), (169, .tup []), (170, .tup []), (173, .tup []), (174, .tup []), (175, .tup [])], [some (.box [.nil, .nil, .nil, .nil, .nil, .i .i64 ((0 : Int))]), some (.box [.own 2, .own 3, .own 4, .own 5, .own 6, .i .i64 ((0 : Int))]), some (.arr 2 (List.map MAccount.av v170)), some (.arr 2 (List.map MInstr.av v171)), some (.arr 3 (List.map MBal.av v172)), some (.arr 5 (List.map MLot.av v173)), some (.arr 8 (List.map MTrade.av v174)), some (.arr 1 (List.map iv [(2 : Int), (2 : Int), (3 : Int), (5 : Int), (8 : Int)])), some (.arr 1 (List.map iv [(20 : Int), (8 : Int), (160 : Int), (120 : Int), (30 : Int)]))]⟩) h (fun _ h => by cases h) ?_ ?_
  · exact Exists.intro [.id 0, .id 48, .nl, .nl, .nl, .nl, .nl, .id 96, .id 128] (And.intro rfl (And.intro (And.intro (And.intro trivial (And.intro trivial (And.intro trivial (And.intro trivial (And.intro trivial (And.intro rfl trivial)))))) (And.intro (And.intro trivial (And.intro trivial (And.intro trivial (And.intro trivial (And.intro trivial (And.intro rfl trivial)))))) (And.intro rfl (And.intro rfl (And.intro rfl (And.intro rfl (And.intro rfl (And.intro rfl (And.intro rfl trivial))))))))) (And.intro rfl (And.intro trivial (And.intro trivial (And.intro rfl (And.intro trivial (And.intro trivial (And.intro rfl (And.intro trivial (And.intro trivial (And.intro trivial (And.intro trivial (And.intro trivial (And.intro trivial (And.intro trivial trivial))))))))))))))))
  intro n v h
  obtain ⟨v170, v171, v172, v173, v174, v175, v176⟩ := v
  rw [s_BooksRead_L1.eq_2] at h
  refine PS.ite h (fun h177 h => ?_) (fun h177 h => ?_)
  · refine OB.grd h (fun h178 h => ?_)
    refine EX.get h (fun x179 h180 h => ?_)
    refine OB.grd h (fun h181 h => ?_)
    refine EX.get h (fun x182 h183 h => ?_)
    refine CK.call false [] h (fun _ h => con_s_l13Rows h) (And.intro rfl (And.intro rfl (And.intro rfl (And.intro rfl trivial)))) trivial rfl (fun _ => rfl) (fun _ => Or.inl rfl) (fun y184 h185 h => ?_)
    refine RN.mk ?_
    refine OB.mk (by kernel_rfl) ?_
    refine PS.ite h (fun h186 h => ?_) (fun h186 h => ?_)
    · exact lf7 h fun e0 e1 e2 e3 e4 e5 e6 => Exists.intro [.nl, .nl, .nl, .nl, .nl] (And.intro rfl (And.intro (And.intro (mpn e0) (And.intro (mpn e1) (And.intro (mpn e2) (And.intro (mpn e3) (And.intro (mpn e4) trivial))))) (And.intro (And.intro trivial (And.intro trivial (And.intro trivial (And.intro trivial (And.intro trivial (And.intro e5 trivial)))))) (And.intro (be e6) trivial))))
    refine LP.fuel (g := s_BooksRead_L2 v176 y184 _) (fun (v261, v262, v263, v264, v265, v266) => ⟨[(0, .sl 1 (List.map u8 a0)), (2, .ptr 0 0), (4, .ptr 1 0), (5, .i .i64 y184.2.1), (6, .own 7), (7, .own 8), (8, .i .i64 v176), (9, .own 9), (12, .i .i64 v266), (167, .tup []), (168, .tup []), (169, .tup []), (170, .tup []), (173, .tup []), (174, .tup []), (175, .tup [])], [some (.box [.nil, .nil, .nil, .nil, .nil, .i .i64 ((0 : Int))]), some (.box [.own 2, .own 3, .own 4, .own 5, .own 6, .i .i64 ((0 : Int))]), some (.arr 2 (List.map MAccount.av v261)), some (.arr 2 (List.map MInstr.av v262)), some (.arr 3 (List.map MBal.av v263)), some (.arr 5 (List.map MLot.av v264)), some (.arr 8 (List.map MTrade.av v265)), some (.arr 1 (List.map iv [(2 : Int), (2 : Int), (3 : Int), (5 : Int), (8 : Int)])), some (.arr 1 (List.map iv [(20 : Int), (8 : Int), (160 : Int), (120 : Int), (30 : Int)])), some (.arr 1 (List.map (sv 1 iv) y184.1))]⟩) h (fun _ h => by cases h) ?_ ?_
    · exact Exists.intro [.id 0, .id 1, .id 2, .id 3, .id 4, .id 5, .id 6, .id 7, .id 8, .id 201] (And.intro rfl (And.intro (And.intro (And.intro trivial (And.intro trivial (And.intro trivial (And.intro trivial (And.intro trivial (And.intro rfl trivial)))))) (And.intro (And.intro trivial (And.intro trivial (And.intro trivial (And.intro trivial (And.intro trivial (And.intro rfl trivial)))))) (And.intro rfl (And.intro rfl (And.intro rfl (And.intro rfl (And.intro rfl (And.intro rfl (And.intro rfl (And.intro rfl trivial)))))))))) (And.intro rfl (And.intro trivial (And.intro trivial (And.intro rfl (And.intro trivial (And.intro trivial (And.intro rfl (And.intro trivial (And.intro rfl (And.intro trivial (And.intro trivial (And.intro trivial (And.intro trivial (And.intro trivial (And.intro trivial (And.intro trivial trivial))))))))))))))))))
    intro n v h
    obtain ⟨v261, v262, v263, v264, v265, v266⟩ := v
    rw [s_BooksRead_L2.eq_2] at h
    refine HY.mk (fun _ => ?_)
    refine PS.ite h (fun h267 h => ?_) (fun h267 h => ?_)
    · refine OB.grd h (fun h268 h => ?_)
      refine EX.get h (fun x269 h270 h => ?_)
      refine PS.ite h (fun h271 h => ?_) (fun h271 h => ?_)
      · refine OB.grd h (fun h272 h => ?_)
        refine EX.get h (fun x273 h274 h => ?_)
        refine OB.grd h (fun h275 h => ?_)
        refine EX.get h (fun x276 h277 h => ?_)
        refine RN.to (List.map MAccount.av [(MAccount.mk x273 x276)]) rfl ?_
        refine OB.app (enc := MAccount.av) (l := [(MAccount.mk x273 x276)]) rfl (fun _ => rfl) h (fun h278 h => ?_)
        refine RN.to (List.map MAccount.av (v261 ++ [(MAccount.mk x273 x276)])) List.map_append.symm ?_
        refine OB.mk (by kernel_rfl) ?_
        refine NX.next h ?_
        exact Exists.intro [.id 0, .id 1, .id 362, .id 3, .id 4, .id 5, .id 6, .id 7, .id 8, .id 9] (And.intro rfl (And.intro (And.intro (And.intro trivial (And.intro trivial (And.intro trivial (And.intro trivial (And.intro trivial (And.intro rfl trivial)))))) (And.intro (And.intro trivial (And.intro trivial (And.intro trivial (And.intro trivial (And.intro trivial (And.intro rfl trivial)))))) (And.intro rfl (And.intro rfl (And.intro rfl (And.intro rfl (And.intro rfl (And.intro rfl (And.intro rfl (And.intro rfl trivial)))))))))) (And.intro rfl (And.intro trivial (And.intro trivial (And.intro rfl (And.intro trivial (And.intro trivial (And.intro rfl (And.intro trivial (And.intro rfl (And.intro trivial (And.intro trivial (And.intro trivial (And.intro trivial (And.intro trivial (And.intro trivial (And.intro trivial trivial))))))))))))))))))
      refine PS.ite h (fun h279 h => ?_) (fun h279 h => ?_)
      · refine OB.grd h (fun h280 h => ?_)
        refine EX.get h (fun x281 h282 h => ?_)
        refine OB.grd h (fun h283 h => ?_)
        refine EX.get h (fun x284 h285 h => ?_)
        refine RN.to (List.map MInstr.av [(MInstr.mk x281 x284)]) rfl ?_
        refine OB.app (enc := MInstr.av) (l := [(MInstr.mk x281 x284)]) rfl (fun _ => rfl) h (fun h286 h => ?_)
        refine RN.to (List.map MInstr.av (v262 ++ [(MInstr.mk x281 x284)])) List.map_append.symm ?_
        refine OB.mk (by kernel_rfl) ?_
        refine NX.next h ?_
        exact Exists.intro [.id 0, .id 1, .id 2, .id 394, .id 4, .id 5, .id 6, .id 7, .id 8, .id 9] (And.intro rfl (And.intro (And.intro (And.intro trivial (And.intro trivial (And.intro trivial (And.intro trivial (And.intro trivial (And.intro rfl trivial)))))) (And.intro (And.intro trivial (And.intro trivial (And.intro trivial (And.intro trivial (And.intro trivial (And.intro rfl trivial)))))) (And.intro rfl (And.intro rfl (And.intro rfl (And.intro rfl (And.intro rfl (And.intro rfl (And.intro rfl (And.intro rfl trivial)))))))))) (And.intro rfl (And.intro trivial (And.intro trivial (And.intro rfl (And.intro trivial (And.intro trivial (And.intro rfl (And.intro trivial (And.intro rfl (And.intro trivial (And.intro trivial (And.intro trivial (And.intro trivial (And.intro trivial (And.intro trivial (And.intro trivial trivial))))))))))))))))))
      refine PS.ite h (fun h287 h => ?_) (fun h287 h => ?_)
      · refine OB.grd h (fun h288 h => ?_)
        refine EX.get h (fun x289 h290 h => ?_)
        refine OB.grd h (fun h291 h => ?_)
        refine EX.get h (fun x292 h293 h => ?_)
        refine OB.grd h (fun h294 h => ?_)
        refine EX.get h (fun x295 h296 h => ?_)
        refine RN.to (List.map MBal.av [(MBal.mk x289 x292 (w64 (x295 - (1000000000000000 : Int))))]) rfl ?_
        refine OB.app (enc := MBal.av) (l := [(MBal.mk x289 x292 (w64 (x295 - (1000000000000000 : Int))))]) rfl (fun _ => rfl) h (fun h297 h => ?_)
        refine RN.to (List.map MBal.av (v263 ++ [(MBal.mk x289 x292 (w64 (x295 - (1000000000000000 : Int))))])) List.map_append.symm ?_
        refine OB.mk (by kernel_rfl) ?_
        refine NX.next h ?_
        exact Exists.intro [.id 0, .id 1, .id 2, .id 3, .id 490, .id 5, .id 6, .id 7, .id 8, .id 9] (And.intro rfl (And.intro (And.intro (And.intro trivial (And.intro trivial (And.intro trivial (And.intro trivial (And.intro trivial (And.intro rfl trivial)))))) (And.intro (And.intro trivial (And.intro trivial (And.intro trivial (And.intro trivial (And.intro trivial (And.intro rfl trivial)))))) (And.intro rfl (And.intro rfl (And.intro rfl (And.intro rfl (And.intro rfl (And.intro rfl (And.intro rfl (And.intro rfl trivial)))))))))) (And.intro rfl (And.intro trivial (And.intro trivial (And.intro rfl (And.intro trivial (And.intro trivial (And.intro rfl (And.intro trivial (And.intro rfl (And.intro trivial (And.intro trivial (And.intro trivial (And.intro trivial (And.intro trivial (And.intro trivial (And.intro trivial trivial))))))))))))))))))
      refine PS.ite h (fun h298 h => ?_) (fun h298 h => ?_)
      · refine OB.grd h (fun h299 h => ?_)
        refine EX.get h (fun x300 h301 h => ?_)
        refine OB.grd h (fun h302 h => ?_)
        refine EX.get h (fun x303 h304 h => ?_)
        refine OB.grd h (fun h305 h => ?_)
        refine EX.get h (fun x306 h307 h => ?_)
        refine OB.grd h (fun h308 h => ?_)
        refine EX.get h (fun x309 h310 h => ?_)
        refine OB.grd h (fun h311 h => ?_)
        refine EX.get h (fun x312 h313 h => ?_)
        refine RN.to (List.map MLot.av [(MLot.mk x300 x303 x306 x309 x312)]) rfl ?_
        refine OB.app (enc := MLot.av) (l := [(MLot.mk x300 x303 x306 x309 x312)]) rfl (fun _ => rfl) h (fun h314 h => ?_)
        refine RN.to (List.map MLot.av (v264 ++ [(MLot.mk x300 x303 x306 x309 x312)])) List.map_append.symm ?_
        refine OB.mk (by kernel_rfl) ?_
        refine NX.next h ?_
        exact Exists.intro [.id 0, .id 1, .id 2, .id 3, .id 4, .id 602, .id 6, .id 7, .id 8, .id 9] (And.intro rfl (And.intro (And.intro (And.intro trivial (And.intro trivial (And.intro trivial (And.intro trivial (And.intro trivial (And.intro rfl trivial)))))) (And.intro (And.intro trivial (And.intro trivial (And.intro trivial (And.intro trivial (And.intro trivial (And.intro rfl trivial)))))) (And.intro rfl (And.intro rfl (And.intro rfl (And.intro rfl (And.intro rfl (And.intro rfl (And.intro rfl (And.intro rfl trivial)))))))))) (And.intro rfl (And.intro trivial (And.intro trivial (And.intro rfl (And.intro trivial (And.intro trivial (And.intro rfl (And.intro trivial (And.intro rfl (And.intro trivial (And.intro trivial (And.intro trivial (And.intro trivial (And.intro trivial (And.intro trivial (And.intro trivial trivial))))))))))))))))))
      refine PS.ite h (fun h315 h => ?_) (fun h315 h => ?_)
      · refine OB.grd h (fun h316 h => ?_)
        refine EX.get h (fun x317 h318 h => ?_)
        refine OB.grd h (fun h319 h => ?_)
        refine EX.get h (fun x320 h321 h => ?_)
        refine OB.grd h (fun h322 h => ?_)
        refine EX.get h (fun x323 h324 h => ?_)
        refine OB.grd h (fun h325 h => ?_)
        refine EX.get h (fun x326 h327 h => ?_)
        refine OB.grd h (fun h328 h => ?_)
        refine EX.get h (fun x329 h330 h => ?_)
        refine OB.grd h (fun h331 h => ?_)
        refine EX.get h (fun x332 h333 h => ?_)
        refine OB.grd h (fun h334 h => ?_)
        refine EX.get h (fun x335 h336 h => ?_)
        refine OB.grd h (fun h337 h => ?_)
        refine EX.get h (fun x338 h339 h => ?_)
        refine RN.to (List.map MTrade.av [(MTrade.mk x317 x320 x323 x326 x329 x332 x335 x338)]) rfl ?_
        refine OB.app (enc := MTrade.av) (l := [(MTrade.mk x317 x320 x323 x326 x329 x332 x335 x338)]) rfl (fun _ => rfl) h (fun h340 h => ?_)
        refine RN.to (List.map MTrade.av (v265 ++ [(MTrade.mk x317 x320 x323 x326 x329 x332 x335 x338)])) List.map_append.symm ?_
        refine OB.mk (by kernel_rfl) ?_
        refine NX.next h ?_
        exact Exists.intro [.id 0, .id 1, .id 2, .id 3, .id 4, .id 5, .id 778, .id 7, .id 8, .id 9] (And.intro rfl (And.intro (And.intro (And.intro trivial (And.intro trivial (And.intro trivial (And.intro trivial (And.intro trivial (And.intro rfl trivial)))))) (And.intro (And.intro trivial (And.intro trivial (And.intro trivial (And.intro trivial (And.intro trivial (And.intro rfl trivial)))))) (And.intro rfl (And.intro rfl (And.intro rfl (And.intro rfl (And.intro rfl (And.intro rfl (And.intro rfl (And.intro rfl trivial)))))))))) (And.intro rfl (And.intro trivial (And.intro trivial (And.intro rfl (And.intro trivial (And.intro trivial (And.intro rfl (And.intro trivial (And.intro rfl (And.intro trivial (And.intro trivial (And.intro trivial (And.intro trivial (And.intro trivial (And.intro trivial (And.intro trivial trivial))))))))))))))))))
      refine NX.next h ?_
      exact Exists.intro [.id 0, .id 1, .id 2, .id 3, .id 4, .id 5, .id 6, .id 7, .id 8, .id 9] (And.intro rfl (And.intro (And.intro (And.intro trivial (And.intro trivial (And.intro trivial (And.intro trivial (And.intro trivial (And.intro rfl trivial)))))) (And.intro (And.intro trivial (And.intro trivial (And.intro trivial (And.intro trivial (And.intro trivial (And.intro rfl trivial)))))) (And.intro rfl (And.intro rfl (And.intro rfl (And.intro rfl (And.intro rfl (And.intro rfl (And.intro rfl (And.intro rfl trivial)))))))))) (And.intro rfl (And.intro trivial (And.intro trivial (And.intro rfl (And.intro trivial (And.intro trivial (And.intro rfl (And.intro trivial (And.intro rfl (And.intro trivial (And.intro trivial (And.intro trivial (And.intro trivial (And.intro trivial (And.intro trivial (And.intro trivial trivial))))))))))))))))))
    refine NX.next h ?_
    exact Exists.intro [.id 0, .id 1, .id 2, .id 3, .id 4, .id 5, .id 6, .id 7, .id 8] (And.intro rfl (And.intro (And.intro (And.intro trivial (And.intro trivial (And.intro trivial (And.intro trivial (And.intro trivial (And.intro rfl trivial)))))) (And.intro (And.intro trivial (And.intro trivial (And.intro trivial (And.intro trivial (And.intro trivial (And.intro rfl trivial)))))) (And.intro rfl (And.intro rfl (And.intro rfl (And.intro rfl (And.intro rfl (And.intro rfl (And.intro rfl trivial))))))))) (And.intro rfl (And.intro trivial (And.intro trivial (And.intro rfl (And.intro trivial (And.intro trivial (And.intro rfl (And.intro trivial (And.intro trivial (And.intro trivial (And.intro trivial (And.intro trivial (And.intro trivial (And.intro trivial trivial))))))))))))))))
  refine CK.call false [] h (fun _ h => con_s_GetNum h) (And.intro rfl (And.intro rfl trivial)) trivial rfl (fun _ => rfl) (fun _ => Or.inl rfl) (fun y352 h353 h => ?_)
  refine PS.ite h (fun h354 h => ?_) (fun h354 h => ?_)
  · exact lf7 h fun e0 e1 e2 e3 e4 e5 e6 => Exists.intro [.nl, .nl, .nl, .nl, .nl] (And.intro rfl (And.intro (And.intro (mpn e0) (And.intro (mpn e1) (And.intro (mpn e2) (And.intro (mpn e3) (And.intro (mpn e4) trivial))))) (And.intro (And.intro trivial (And.intro trivial (And.intro trivial (And.intro trivial (And.intro trivial (And.intro e5 trivial)))))) (And.intro (be e6) trivial))))
  refine HY.mk (fun _ => ?_)
  refine PS.ite h (fun h355 h => ?_) (fun h355 h => ?_)
  · exact lf7 h fun e0 e1 e2 e3 e4 e5 e6 => Exists.intro [.nl, .nl, .nl, .nl, .nl] (And.intro rfl (And.intro (And.intro (mpn e0) (And.intro (mpn e1) (And.intro (mpn e2) (And.intro (mpn e3) (And.intro (mpn e4) trivial))))) (And.intro (And.intro trivial (And.intro trivial (And.intro trivial (And.intro trivial (And.intro trivial (And.intro e5 trivial)))))) (And.intro (be e6) trivial))))
  refine CK.call false [] h (fun _ h => con_s_BooksOk h) (And.intro (And.intro rfl (And.intro rfl (And.intro rfl (And.intro rfl (And.intro rfl (And.intro rfl trivial)))))) trivial) trivial rfl (fun _ => rfl) (fun _ => Or.inr (Flat.mk rfl trivial)) (fun y356 h357 h => ?_)
  refine PS.ite h (fun h358 h => ?_) (fun h358 h => ?_)
  · exact lf7 h fun e0 e1 e2 e3 e4 e5 e6 => Exists.intro [.nl, .nl, .nl, .nl, .nl] (And.intro rfl (And.intro (And.intro (mpn e0) (And.intro (mpn e1) (And.intro (mpn e2) (And.intro (mpn e3) (And.intro (mpn e4) trivial))))) (And.intro (And.intro trivial (And.intro trivial (And.intro trivial (And.intro trivial (And.intro trivial (And.intro e5 trivial)))))) (And.intro (be e6) trivial))))
  exact lf7 h fun e0 e1 e2 e3 e4 e5 e6 => Exists.intro [.id 2, .id 3, .id 4, .id 5, .id 6] (And.intro rfl (And.intro (And.intro (mpe e0) (And.intro (mpe e1) (And.intro (mpe e2) (And.intro (mpe e3) (And.intro (mpe e4) trivial))))) (And.intro (And.intro trivial (And.intro trivial (And.intro trivial (And.intro trivial (And.intro trivial (And.intro e5 trivial)))))) (And.intro (be e6) trivial))))
theorem con_s_SaveLoad {a0 : MDisk} {r0 : Int} {r1 : (List MAccount)} {r2 : (List MInstr)} {r3 : (List MBal)} {r4 : (List MLot)} {r5 : (List MTrade)} {r6 : Int} {r7 : Bool} (h : s_SaveLoad a0 = some (r0, r1, r2, r3, r4, r5, r6, r7)) : Con Tryz.prog 7 [.agg [.i .i64 a0.Room, .sl 3 (List.map MFile.av a0.Files)]] [] (.tup [.agg [.i .i64 r0, .own 0, .own 1, .own 2, .own 3, .own 4, .i .i64 r6], .p (r7 = true)]) [some (.arr 2 (List.map MAccount.av r1)), some (.arr 2 (List.map MInstr.av r2)), some (.arr 3 (List.map MBal.av r3)), some (.arr 5 (List.map MLot.av r4)), some (.arr 8 (List.map MTrade.av r5))] := by
  refine con_of_awpF hT mixed (fn := Tryz.f7) Tryz.func7 rfl rfl ?_
  unfold s_SaveLoad at h
  refine CK.call false [] h (fun _ h => con_s_DiskRead h) (And.intro (And.intro rfl (And.intro rfl trivial)) (And.intro rfl trivial)) trivial rfl (fun _ => rfl) (fun _ => Or.inl rfl) (fun y1 h2 h => ?_)
  refine PS.ite h (fun h3 h => ?_) (fun h3 h => ?_)
  · exact lf8 h fun e0 e1 e2 e3 e4 e5 e6 e7 => Exists.intro [.nl, .nl, .nl, .nl, .nl] (And.intro rfl (And.intro (And.intro (mpn e1) (And.intro (mpn e2) (And.intro (mpn e3) (And.intro (mpn e4) (And.intro (mpn e5) trivial))))) (And.intro (And.intro e0 (And.intro trivial (And.intro trivial (And.intro trivial (And.intro trivial (And.intro trivial (And.intro e6 trivial))))))) (And.intro (be e7) trivial))))
  refine CK.call false [] h (fun _ h => con_s_Unseal h) (And.intro rfl (And.intro rfl trivial)) trivial rfl (fun _ => rfl) (fun _ => Or.inl rfl) (fun y4 h5 h => ?_)
  refine RN.mk ?_
  refine PS.ite h (fun h6 h => ?_) (fun h6 h => ?_)
  · exact lf8 h fun e0 e1 e2 e3 e4 e5 e6 e7 => Exists.intro [.nl, .nl, .nl, .nl, .nl] (And.intro rfl (And.intro (And.intro (mpn e1) (And.intro (mpn e2) (And.intro (mpn e3) (And.intro (mpn e4) (And.intro (mpn e5) trivial))))) (And.intro (And.intro e0 (And.intro trivial (And.intro trivial (And.intro trivial (And.intro trivial (And.intro trivial (And.intro e6 trivial))))))) (And.intro (be e7) trivial))))
  refine HY.mk (fun _ => ?_)
  refine PS.ite h (fun h7 h => ?_) (fun h7 h => ?_)
  · exact lf8 h fun e0 e1 e2 e3 e4 e5 e6 e7 => Exists.intro [.nl, .nl, .nl, .nl, .nl] (And.intro rfl (And.intro (And.intro (mpn e1) (And.intro (mpn e2) (And.intro (mpn e3) (And.intro (mpn e4) (And.intro (mpn e5) trivial))))) (And.intro (And.intro e0 (And.intro trivial (And.intro trivial (And.intro trivial (And.intro trivial (And.intro trivial (And.intro e6 trivial))))))) (And.intro (be e7) trivial))))
  refine CK.call false [] h (fun _ h => con_s_GetNum h) (And.intro rfl (And.intro rfl trivial)) trivial rfl (fun _ => rfl) (fun _ => Or.inr (Flat.mk rfl trivial)) (fun y8 h9 h => ?_)
  refine PS.ite h (fun h10 h => ?_) (fun h10 h => ?_)
  · exact lf8 h fun e0 e1 e2 e3 e4 e5 e6 e7 => Exists.intro [.nl, .nl, .nl, .nl, .nl] (And.intro rfl (And.intro (And.intro (mpn e1) (And.intro (mpn e2) (And.intro (mpn e3) (And.intro (mpn e4) (And.intro (mpn e5) trivial))))) (And.intro (And.intro e0 (And.intro trivial (And.intro trivial (And.intro trivial (And.intro trivial (And.intro trivial (And.intro e6 trivial))))))) (And.intro (be e7) trivial))))
  refine CK.call false [] h (fun _ h => con_s_l15Seg h) (And.intro rfl trivial) trivial rfl (fun _ => rfl) (fun _ => Or.inl rfl) (fun y11 h12 h => ?_)
  refine PS.ite h (fun h13 h => ?_) (fun h13 h => ?_)
  · exact lf8 h fun e0 e1 e2 e3 e4 e5 e6 e7 => Exists.intro [.nl, .nl, .nl, .nl, .nl] (And.intro rfl (And.intro (And.intro (mpn e1) (And.intro (mpn e2) (And.intro (mpn e3) (And.intro (mpn e4) (And.intro (mpn e5) trivial))))) (And.intro (And.intro e0 (And.intro trivial (And.intro trivial (And.intro trivial (And.intro trivial (And.intro trivial (And.intro e6 trivial))))))) (And.intro (be e7) trivial))))
  refine OB.grd h (fun h14 h => ?_)
  refine CK.call false [] h (fun _ h => con_s_BooksRead h) (And.intro dtm trivial) trivial rfl (fun _ => rfl) (fun _ => Or.inr (Flat.mk rfl (And.intro (FlatO.map fun _ => rfl) (And.intro (FlatO.map fun _ => rfl) (And.intro (FlatO.map fun _ => rfl) (And.intro (FlatO.map fun _ => rfl) (And.intro (FlatO.map fun _ => rfl) trivial))))))) (fun y15 h16 h => ?_)
  refine RN.mk ?_
  refine RN.mk ?_
  refine RN.mk ?_
  refine RN.mk ?_
  refine RN.mk ?_
  refine PS.ite h (fun h17 h => ?_) (fun h17 h => ?_)
  · exact lf8 h fun e0 e1 e2 e3 e4 e5 e6 e7 => Exists.intro [.nl, .nl, .nl, .nl, .nl] (And.intro rfl (And.intro (And.intro (mpn e1) (And.intro (mpn e2) (And.intro (mpn e3) (And.intro (mpn e4) (And.intro (mpn e5) trivial))))) (And.intro (And.intro e0 (And.intro trivial (And.intro trivial (And.intro trivial (And.intro trivial (And.intro trivial (And.intro e6 trivial))))))) (And.intro (be e7) trivial))))
  exact lf8 h fun e0 e1 e2 e3 e4 e5 e6 e7 => Exists.intro [.id 784, .id 785, .id 786, .id 787, .id 788] (And.intro rfl (And.intro (And.intro (mpe e1) (And.intro (mpe e2) (And.intro (mpe e3) (And.intro (mpe e4) (And.intro (mpe e5) trivial))))) (And.intro (And.intro e0 (And.intro trivial (And.intro trivial (And.intro trivial (And.intro trivial (And.intro trivial (And.intro e6 trivial))))))) (And.intro (be e7) trivial))))
theorem con_i_fileAt_c1 {a0 : MFile} {a1_0 : Int} {r0 : Bool} (h : i_fileAt_c1 a0 a1_0 = some r0) : Con Tryz.prog 133 [.agg [.i .i64 a0.Name, .s a0.Safe, .s a0.Late], .rp [.i .i64 a1_0]] [] (.p (r0 = true)) [] := by
  refine con_of_awpF hT mixed (fn := Tryz.f133) Tryz.func133 rfl rfl ?_
  unfold i_fileAt_c1 at h
  exact lf1 h fun e0 => Exists.intro [] (And.intro rfl (And.intro trivial (pqe e0)))
theorem con_g_IndexFunc_File {a0 : (List MFile)} {a1_0_0 : Int} {r0 : Int} (h : g_IndexFunc_File a0 a1_0_0 = some r0) : Con Tryz.prog 132 [.sl 3 (List.map MFile.av a0), .fn (.func 133) [] [.rp [.i .i64 a1_0_0]]] [] (.i .i64 r0) [] := by
  refine con_of_awpF hT mixed (fn := Tryz.f132) Tryz.func132 rfl rfl ?_
  unfold g_IndexFunc_File at h
  refine HY.mk (fun _ => ?_)
  refine LP.fuel (g := g_IndexFunc_File_L1 a0 a1_0_0 _) (fun v8 => ⟨[(0, .sl 3 (List.map MFile.av a0)), (1, .fn (.func 133) [] [.rp [.i .i64 a1_0_0]]), (7, .i .i64 ((ln (List.map MFile.av a0)))), (8, .i .i64 v8)], []⟩) h (fun _ h => by cases h) ?_ ?_
  · exact Exists.intro [] (And.intro rfl (And.intro trivial (And.intro rfl (And.intro (And.intro rfl (And.intro rfl rfl)) (And.intro rfl (And.intro rfl trivial))))))
  intro n v8 h
  rw [g_IndexFunc_File_L1.eq_2] at h
  refine PS.ite h (fun h9 h => ?_) (fun h9 h => ?_)
  · refine OB.grd h (fun h10 h => ?_)
    refine EX.get h (fun x11 h12 h => ?_)
    refine CK.call false [] h (fun _ h => con_i_fileAt_c1 h) (And.intro (And.intro rfl (And.intro rfl (And.intro rfl trivial))) (And.intro (And.intro rfl trivial) trivial)) trivial rfl (fun _ => rfl) (fun _ => Or.inl rfl) (fun y13 h14 h => ?_)
    refine PS.ite h (fun h15 h => ?_) (fun h15 h => ?_)
    · exact lf1 h fun e0 => Exists.intro [] (And.intro rfl (And.intro trivial e0))
    refine NX.next h ?_
    exact Exists.intro [] (And.intro rfl (And.intro trivial (And.intro rfl (And.intro (And.intro rfl (And.intro rfl rfl)) (And.intro rfl (And.intro rfl trivial))))))
  exact lf1 h fun e0 => Exists.intro [] (And.intro rfl (And.intro trivial e0))
theorem con_i_fileAt {a0 : MDisk} {a1 : Int} {r0 : Int} (h : i_fileAt a0 a1 = some r0) : Con Tryz.prog 66 [.agg [.i .i64 a0.Room, .sl 3 (List.map MFile.av a0.Files)], .i .i64 a1] [] (.i .i64 r0) [] := by
  refine con_of_awpF hT mixed (fn := Tryz.f66) Tryz.func66 rfl rfl ?_
  unfold i_fileAt at h
  refine CK.call false [] h (fun _ h => con_g_IndexFunc_File h) (And.intro rfl (And.intro (And.intro rfl (And.intro trivial (And.intro (And.intro rfl trivial) trivial))) trivial)) trivial rfl (fun _ => rfl) (fun _ => Or.inr (Flat.mk rfl trivial)) (fun y1 h2 h => ?_)
  exact lf1 h fun e0 => Exists.intro [] (And.intro rfl (And.intro trivial e0))
theorem con_i_in {a0 : Int} {a1 : Int} {a2 : Int} {r0 : Bool} (h : i_in a0 a1 a2 = some r0) : Con Tryz.prog 53 [.i .i64 a0, .i .i64 a1, .i .i64 a2] [] (.p (r0 = true)) [] := by
  refine con_of_awpF hT mixed (fn := Tryz.f53) Tryz.func53 rfl rfl ?_
  unfold i_in at h
  refine PS.ite h (fun h1 h => ?_) (fun h1 h => ?_)
  · exact lf1 h fun e0 => Exists.intro [] (And.intro rfl (And.intro trivial (pqe e0)))
  exact lf1 h fun e0 => Exists.intro [] (And.intro rfl (And.intro trivial (be e0)))
theorem con_i_isFile {a0 : Int} {r0 : Bool} (h : i_isFile a0 = some r0) : Con Tryz.prog 114 [.i .i64 a0] [] (.p (r0 = true)) [] := by
  refine con_of_awpF hT mixed (fn := Tryz.f114) Tryz.func114 rfl rfl ?_
  unfold i_isFile at h
  refine CK.call false [] h (fun _ h => con_i_in h) (And.intro rfl (And.intro rfl (And.intro rfl trivial))) trivial rfl (fun _ => rfl) (fun _ => Or.inl rfl) (fun y1 h2 h => ?_)
  exact lf1 h fun e0 => Exists.intro [] (And.intro rfl (And.intro trivial (be e0)))
theorem con_i_usedRoom {a0 : MDisk} {r0 : Int} (h : i_usedRoom a0 = some r0) : Con Tryz.prog 115 [.agg [.i .i64 a0.Room, .sl 3 (List.map MFile.av a0.Files)]] [] (.i .i64 r0) [] := by
  refine con_of_awpF hT mixed (fn := Tryz.f115) Tryz.func115 rfl rfl ?_
  unfold i_usedRoom at h
  refine HY.mk (fun _ => ?_)
  refine LP.fuel (g := i_usedRoom_L1 a0 _) (fun (v5, v6) => ⟨[(3, .i .i64 v5), (7, .sl 3 (List.map MFile.av a0.Files)), (8, .i .i64 ((ln (List.map MFile.av a0.Files)))), (9, .i .i64 v6)], []⟩) h (fun _ h => by cases h) ?_ ?_
  · exact Exists.intro [] (And.intro rfl (And.intro trivial (And.intro rfl (And.intro rfl (And.intro rfl (And.intro rfl trivial))))))
  intro n v h
  obtain ⟨v5, v6⟩ := v
  rw [i_usedRoom_L1.eq_2] at h
  refine PS.ite h (fun h7 h => ?_) (fun h7 h => ?_)
  · refine OB.grd h (fun h8 h => ?_)
    refine EX.get h (fun x9 h10 h => ?_)
    refine HY.mk (fun _ => ?_)
    refine HY.mk (fun _ => ?_)
    refine NX.next h ?_
    exact Exists.intro [] (And.intro rfl (And.intro trivial (And.intro rfl (And.intro rfl (And.intro rfl (And.intro rfl trivial))))))
  exact lf1 h fun e0 => Exists.intro [] (And.intro rfl (And.intro trivial e0))
theorem con_i_DiskOk {a0 : MDisk} {r0 : Bool} (h : i_DiskOk a0 = some r0) : Con Tryz.prog 52 [.agg [.i .i64 a0.Room, .sl 3 (List.map MFile.av a0.Files)]] [] (.p (r0 = true)) [] := by
  refine con_of_awpF hT mixed (fn := Tryz.f52) Tryz.func52 rfl rfl ?_
  unfold i_DiskOk at h
  refine HY.mk (fun _ => ?_)
  refine LP.fuel (g := i_DiskOk_L1 a0 _) (fun v13 => ⟨[(1, .ptr 0 0), (6, .sl 3 (List.map MFile.av a0.Files)), (7, .i .i64 ((ln (List.map MFile.av a0.Files)))), (8, .i .i64 v13), (38, .tup []), (39, .tup []), (40, .tup []), (41, .tup []), (42, .tup [])], [some (.box [.i .i64 a0.Room, .sl 3 (List.map MFile.av a0.Files)])]⟩) h (fun _ h => by cases h) ?_ ?_
  · exact Exists.intro [.id 0] (And.intro rfl (And.intro (And.intro (And.intro rfl (And.intro rfl trivial)) trivial) (And.intro trivial (And.intro rfl (And.intro rfl (And.intro rfl (And.intro trivial (And.intro trivial (And.intro trivial (And.intro trivial (And.intro trivial trivial)))))))))))
  intro n v13 h
  rw [i_DiskOk_L1.eq_2] at h
  refine PS.ite h (fun h14 h => ?_) (fun h14 h => ?_)
  · refine OB.grd h (fun h15 h => ?_)
    refine EX.get h (fun x16 h17 h => ?_)
    refine CK.call false [] h (fun _ h => con_i_isFile h) (And.intro rfl trivial) trivial rfl (fun _ => rfl) (fun _ => Or.inl rfl) (fun y18 h19 h => ?_)
    refine PS.ite h (fun h20 h => ?_) (fun h20 h => ?_)
    · refine PS.pos h20 ?_
      iterate 3 refine PS.pos h20 ?_
      refine OB.mk (by kernel_rfl) ?_
      exact lf1 h fun e0 => Exists.intro [] (And.intro rfl (And.intro trivial (be e0)))
    refine PS.neg h20 ?_
    refine PS.neg h20 ?_
    refine PS.ite h (fun h21 h => ?_) (fun h21 h => ?_)
    · refine PS.pos h21 ?_
      iterate 3 refine PS.pos h21 ?_
      refine OB.grd h (fun h22 h => ?_)
      refine EX.get h (fun x23 h24 h => ?_)
      iterate 5 refine PS.pos h21 ?_
      refine PS.neg h20 ?_
      refine PS.pos h21 ?_
      refine PS.neg h20 ?_
      refine OB.mk (by kernel_rfl) ?_
      refine PS.ite h (fun h25 h => ?_) (fun h25 h => ?_)
      · exact lf1 h fun e0 => Exists.intro [] (And.intro rfl (And.intro trivial (be e0)))
      refine NX.next h ?_
      exact Exists.intro [.id 0] (And.intro rfl (And.intro (And.intro (And.intro rfl (And.intro rfl trivial)) trivial) (And.intro trivial (And.intro rfl (And.intro rfl (And.intro rfl (And.intro trivial (And.intro trivial (And.intro trivial (And.intro trivial (And.intro trivial trivial)))))))))))
    iterate 9 refine PS.neg h21 ?_
    refine PS.neg h20 ?_
    refine PS.neg h21 ?_
    refine PS.neg h20 ?_
    refine OB.mk (by kernel_rfl) ?_
    refine NX.next h ?_
    exact Exists.intro [.id 0] (And.intro rfl (And.intro (And.intro (And.intro rfl (And.intro rfl trivial)) trivial) (And.intro trivial (And.intro rfl (And.intro rfl (And.intro rfl (And.intro trivial (And.intro trivial (And.intro trivial (And.intro trivial (And.intro trivial trivial)))))))))))
  refine CK.call false [] h (fun _ h => con_i_in h) (And.intro rfl (And.intro rfl (And.intro rfl trivial))) trivial rfl (fun _ => rfl) (fun _ => Or.inl rfl) (fun y26 h27 h => ?_)
  refine PS.ite h (fun h28 h => ?_) (fun h28 h => ?_)
  · refine PS.pos h28 ?_
    refine CK.call false [] h (fun _ h => con_i_usedRoom h) (And.intro (And.intro rfl (And.intro rfl trivial)) trivial) trivial rfl (fun _ => rfl) (fun _ => Or.inl rfl) (fun y29 h30 h => ?_)
    iterate 4 refine PS.pos h28 ?_
    refine OB.mk (by kernel_rfl) ?_
    exact lf1 h fun e0 => Exists.intro [] (And.intro rfl (And.intro trivial (pqe e0)))
  iterate 5 refine PS.neg h28 ?_
  refine OB.mk (by kernel_rfl) ?_
  exact lf1 h fun e0 => Exists.intro [] (And.intro rfl (And.intro trivial (be e0)))

end Go.Proofs.YtbknlijpkabcnaaGreat.K
