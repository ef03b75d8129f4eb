/- The functions of the program compute the plain functions. No condition. -/
import Derived.Test.YtbknlijpkabcnaaGreatA1W1
namespace Go.Proofs.YtbknlijpkabcnaaGreat.K
set_option linter.all false
open Go

set_option maxRecDepth 20000
set_option maxHeartbeats 4000000

theorem con_i_lotsRight {a0 : MBooks} {r0 : Bool} (h : i_lotsRight a0 = some r0) : Con Tryz.prog 141 [.agg [.sl 2 (List.map MAccount.av a0.Accounts), .sl 2 (List.map MInstr.av a0.Instrs), .sl 3 (List.map MBal.av a0.Bals), .sl 5 (List.map MLot.av a0.Lots), .sl 8 (List.map MTrade.av a0.Trades), .i .i64 a0.Lot]] [] (.p (r0 = true)) [] := by
  refine con_of_awpF hT mixed (fn := Tryz.f141) Tryz.func141 rfl rfl ?_
  unfold i_lotsRight at h
  refine HY.mk (fun _ => ?_)
  refine LP.fuel (g := i_lotsRight_L1 a0 _) (fun v12 => ⟨[(1, .ptr 0 0), (12, .sl 5 (List.map MLot.av a0.Lots)), (13, .i .i64 ((ln (List.map MLot.av a0.Lots)))), (14, .i .i64 v12), (58, .tup []), (59, .tup []), (60, .tup [])], [some (.box [.sl 2 (List.map MAccount.av a0.Accounts), .sl 2 (List.map MInstr.av a0.Instrs), .sl 3 (List.map MBal.av a0.Bals), .sl 5 (List.map MLot.av a0.Lots), .sl 8 (List.map MTrade.av a0.Trades), .i .i64 a0.Lot])]⟩) h (fun _ h => by cases h) ?_ ?_
  · exact Exists.intro [.id 0] (And.intro rfl (And.intro (And.intro (And.intro rfl (And.intro rfl (And.intro rfl (And.intro rfl (And.intro rfl (And.intro rfl trivial)))))) trivial) (And.intro trivial (And.intro rfl (And.intro rfl (And.intro rfl (And.intro trivial (And.intro trivial (And.intro trivial trivial)))))))))
  intro n v12 h
  rw [i_lotsRight_L1.eq_2] at h
  refine PS.ite h (fun h13 h => ?_) (fun h13 h => ?_)
  · refine OB.grd h (fun h14 h => ?_)
    refine EX.get h (fun x15 h16 h => ?_)
    refine CK.call false [] h (fun _ h => con_i_accountKind h) (And.intro rfl (And.intro rfl trivial)) trivial rfl (fun _ => rfl) (fun _ => Or.inl rfl) (fun y17 h18 h => ?_)
    refine PS.ite h (fun h19 h => ?_) (fun h19 h => ?_)
    · exact lf1 h fun e0 => Exists.intro [] (And.intro rfl (And.intro trivial (be e0)))
    refine CK.call false [] h (fun _ h => con_i_instrKind h) (And.intro rfl (And.intro rfl trivial)) trivial rfl (fun _ => rfl) (fun _ => Or.inl rfl) (fun y20 h21 h => ?_)
    refine PS.ite h (fun h22 h => ?_) (fun h22 h => ?_)
    · exact lf1 h fun e0 => Exists.intro [] (And.intro rfl (And.intro trivial (be e0)))
    refine PS.ite h (fun h23 h => ?_) (fun h23 h => ?_)
    · exact lf1 h fun e0 => Exists.intro [] (And.intro rfl (And.intro trivial (be e0)))
    refine NX.next h ?_
    exact Exists.intro [.id 0] (And.intro rfl (And.intro (And.intro (And.intro rfl (And.intro rfl (And.intro rfl (And.intro rfl (And.intro rfl (And.intro rfl trivial)))))) trivial) (And.intro trivial (And.intro rfl (And.intro rfl (And.intro rfl (And.intro trivial (And.intro trivial (And.intro trivial trivial)))))))))
  refine HY.mk (fun _ => ?_)
  refine LP.fuel (g := i_lotsRight_L2 a0 _) (fun v55 => ⟨[(1, .ptr 0 0), (41, .sl 2 (List.map MAccount.av a0.Accounts)), (42, .i .i64 ((ln (List.map MAccount.av a0.Accounts)))), (43, .i .i64 v55)], [some (.box [.sl 2 (List.map MAccount.av a0.Accounts), .sl 2 (List.map MInstr.av a0.Instrs), .sl 3 (List.map MBal.av a0.Bals), .sl 5 (List.map MLot.av a0.Lots), .sl 8 (List.map MTrade.av a0.Trades), .i .i64 a0.Lot])]⟩) h (fun _ h => by cases h) ?_ ?_
  · exact Exists.intro [.id 0] (And.intro rfl (And.intro (And.intro (And.intro rfl (And.intro rfl (And.intro rfl (And.intro rfl (And.intro rfl (And.intro rfl trivial)))))) trivial) (And.intro trivial (And.intro rfl (And.intro rfl (And.intro rfl trivial))))))
  intro n v55 h
  rw [i_lotsRight_L2.eq_2] at h
  refine PS.ite h (fun h56 h => ?_) (fun h56 h => ?_)
  · refine OB.grd h (fun h57 h => ?_)
    refine EX.get h (fun x58 h59 h => ?_)
    refine HY.mk (fun _ => ?_)
    refine LP.fuel (g := i_lotsRight_L3 a0 x58 _) (fun v73 => ⟨[(1, .ptr 0 0), (6, .ptr 1 0), (41, .sl 2 (List.map MAccount.av a0.Accounts)), (42, .i .i64 ((ln (List.map MAccount.av a0.Accounts)))), (43, .i .i64 v55), (48, .sl 2 (List.map MInstr.av a0.Instrs)), (49, .i .i64 ((ln (List.map MInstr.av a0.Instrs)))), (50, .i .i64 v73)], [some (.box [.sl 2 (List.map MAccount.av a0.Accounts), .sl 2 (List.map MInstr.av a0.Instrs), .sl 3 (List.map MBal.av a0.Bals), .sl 5 (List.map MLot.av a0.Lots), .sl 8 (List.map MTrade.av a0.Trades), .i .i64 a0.Lot]), some (.box [.i .i64 x58.No, .i .i64 x58.Kind])]⟩) h (fun _ h => by cases h) ?_ ?_
    · exact Exists.intro [.id 0, .id 49] (And.intro rfl (And.intro (And.intro (And.intro rfl (And.intro rfl (And.intro rfl (And.intro rfl (And.intro rfl (And.intro rfl trivial)))))) (And.intro (And.intro rfl (And.intro rfl trivial)) trivial)) (And.intro trivial (And.intro trivial (And.intro rfl (And.intro rfl (And.intro rfl (And.intro rfl (And.intro rfl (And.intro rfl trivial))))))))))
    intro n v73 h
    rw [i_lotsRight_L3.eq_2] at h
    refine PS.ite h (fun h74 h => ?_) (fun h74 h => ?_)
    · refine OB.grd h (fun h75 h => ?_)
      refine EX.get h (fun x76 h77 h => ?_)
      refine PS.ite h (fun h78 h => ?_) (fun h78 h => ?_)
      · refine NX.next h ?_
        exact Exists.intro [.id 0, .id 1] (And.intro rfl (And.intro (And.intro (And.intro rfl (And.intro rfl (And.intro rfl (And.intro rfl (And.intro rfl (And.intro rfl trivial)))))) (And.intro (And.intro rfl (And.intro rfl trivial)) trivial)) (And.intro trivial (And.intro trivial (And.intro rfl (And.intro rfl (And.intro rfl (And.intro rfl (And.intro rfl (And.intro rfl trivial))))))))))
      refine PS.ite h (fun h79 h => ?_) (fun h79 h => ?_)
      · refine NX.next h ?_
        exact Exists.intro [.id 0, .id 1] (And.intro rfl (And.intro (And.intro (And.intro rfl (And.intro rfl (And.intro rfl (And.intro rfl (And.intro rfl (And.intro rfl trivial)))))) (And.intro (And.intro rfl (And.intro rfl trivial)) trivial)) (And.intro trivial (And.intro trivial (And.intro rfl (And.intro rfl (And.intro rfl (And.intro rfl (And.intro rfl (And.intro rfl trivial))))))))))
      refine CK.call false [] h (fun _ h => con_i_lotsOf h) (And.intro rfl (And.intro rfl (And.intro rfl trivial))) trivial rfl (fun _ => rfl) (fun _ => Or.inl rfl) (fun y80 h81 h => ?_)
      refine RN.mk ?_
      refine CK.call false [] h (fun _ h => con_i_sumLots h) (And.intro rfl trivial) trivial rfl (fun _ => rfl) (fun _ => Or.inr (Flat.mk rfl trivial)) (fun y82 h83 h => ?_)
      refine CK.call false [] h (fun _ h => con_i_balOf h) (And.intro rfl (And.intro rfl (And.intro rfl trivial))) trivial rfl (fun _ => rfl) (fun _ => Or.inl rfl) (fun y84 h85 h => ?_)
      refine PS.ite h (fun h86 h => ?_) (fun h86 h => ?_)
      · exact lf1 h fun e0 => Exists.intro [] (And.intro rfl (And.intro trivial (be e0)))
      refine NX.next h ?_
      exact Exists.intro [.id 0, .id 1] (And.intro rfl (And.intro (And.intro (And.intro rfl (And.intro rfl (And.intro rfl (And.intro rfl (And.intro rfl (And.intro rfl trivial)))))) (And.intro (And.intro rfl (And.intro rfl trivial)) trivial)) (And.intro trivial (And.intro trivial (And.intro rfl (And.intro rfl (And.intro rfl (And.intro rfl (And.intro rfl (And.intro rfl trivial))))))))))
    refine NX.next h ?_
    exact Exists.intro [.id 0] (And.intro rfl (And.intro (And.intro (And.intro rfl (And.intro rfl (And.intro rfl (And.intro rfl (And.intro rfl (And.intro rfl trivial)))))) trivial) (And.intro trivial (And.intro rfl (And.intro rfl (And.intro rfl trivial))))))
  exact lf1 h fun e0 => Exists.intro [] (And.intro rfl (And.intro trivial (be e0)))
theorem con_i_tradesRight_c1 {a0 : MTrade} {a1_0 : (List MAccount)} {a1_1 : (List MInstr)} {a1_2 : (List MBal)} {a1_3 : (List MLot)} {a1_4 : (List MTrade)} {a1_5 : Int} {r0 : Bool} (h : i_tradesRight_c1 a0 a1_0 a1_1 a1_2 a1_3 a1_4 a1_5 = some r0) : Con Tryz.prog 183 [.agg [.i .i64 a0.No, .i .i64 a0.Buyer, .i .i64 a0.Seller, .i .i64 a0.Paper, .i .i64 a0.Qty, .i .i64 a0.Cash, .i .i64 a0.Price, .i .i64 a0.State], .rp [.sl 2 (List.map MAccount.av a1_0), .sl 2 (List.map MInstr.av a1_1), .sl 3 (List.map MBal.av a1_2), .sl 5 (List.map MLot.av a1_3), .sl 8 (List.map MTrade.av a1_4), .i .i64 a1_5]] [] (.p (r0 = true)) [] := by
  refine con_of_awpF hT mixed (fn := Tryz.f183) Tryz.func183 rfl rfl ?_
  unfold i_tradesRight_c1 at h
  refine CK.call false [] h (fun _ h => con_i_accountKind h) (And.intro rfl (And.intro rfl trivial)) trivial rfl (fun _ => rfl) (fun _ => Or.inl rfl) (fun y1 h2 h => ?_)
  refine PS.ite h (fun h3 h => ?_) (fun h3 h => ?_)
  · exact lf1 h fun e0 => Exists.intro [] (And.intro rfl (And.intro trivial (be e0)))
  refine CK.call false [] h (fun _ h => con_i_accountKind h) (And.intro rfl (And.intro rfl trivial)) trivial rfl (fun _ => rfl) (fun _ => Or.inl rfl) (fun y4 h5 h => ?_)
  refine PS.ite h (fun h6 h => ?_) (fun h6 h => ?_)
  · exact lf1 h fun e0 => Exists.intro [] (And.intro rfl (And.intro trivial (be e0)))
  refine CK.call false [] h (fun _ h => con_i_instrKind h) (And.intro rfl (And.intro rfl trivial)) trivial rfl (fun _ => rfl) (fun _ => Or.inl rfl) (fun y7 h8 h => ?_)
  refine PS.ite h (fun h9 h => ?_) (fun h9 h => ?_)
  · exact lf1 h fun e0 => Exists.intro [] (And.intro rfl (And.intro trivial (be e0)))
  refine CK.call false [] h (fun _ h => con_i_instrKind h) (And.intro rfl (And.intro rfl trivial)) trivial rfl (fun _ => rfl) (fun _ => Or.inl rfl) (fun y10 h11 h => ?_)
  exact lf1 h fun e0 => Exists.intro [] (And.intro rfl (And.intro trivial (pqe e0)))
theorem con_g_IndexFunc_Trade {a0 : (List MTrade)} {a1_0_0 : (List MAccount)} {a1_0_1 : (List MInstr)} {a1_0_2 : (List MBal)} {a1_0_3 : (List MLot)} {a1_0_4 : (List MTrade)} {a1_0_5 : Int} {r0 : Int} (h : g_IndexFunc_Trade a0 a1_0_0 a1_0_1 a1_0_2 a1_0_3 a1_0_4 a1_0_5 = some r0) : Con Tryz.prog 196 [.sl 8 (List.map MTrade.av a0), .fn (.func 183) [] [.rp [.sl 2 (List.map MAccount.av a1_0_0), .sl 2 (List.map MInstr.av a1_0_1), .sl 3 (List.map MBal.av a1_0_2), .sl 5 (List.map MLot.av a1_0_3), .sl 8 (List.map MTrade.av a1_0_4), .i .i64 a1_0_5]]] [] (.i .i64 r0) [] := by
  refine con_of_awpF hT mixed (fn := Tryz.f196) Tryz.func196 rfl rfl ?_
  unfold g_IndexFunc_Trade at h
  refine HY.mk (fun _ => ?_)
  refine LP.fuel (g := g_IndexFunc_Trade_L1 a0 a1_0_0 a1_0_1 a1_0_2 a1_0_3 a1_0_4 a1_0_5 _) (fun v8 => ⟨[(0, .sl 8 (List.map MTrade.av a0)), (1, .fn (.func 183) [] [.rp [.sl 2 (List.map MAccount.av a1_0_0), .sl 2 (List.map MInstr.av a1_0_1), .sl 3 (List.map MBal.av a1_0_2), .sl 5 (List.map MLot.av a1_0_3), .sl 8 (List.map MTrade.av a1_0_4), .i .i64 a1_0_5]]), (7, .i .i64 ((ln (List.map MTrade.av a0)))), (8, .i .i64 v8)], []⟩) h (fun _ h => by cases h) ?_ ?_
  · exact Exists.intro [] (And.intro rfl (And.intro trivial (And.intro rfl (And.intro (And.intro rfl (And.intro rfl rfl)) (And.intro rfl (And.intro rfl trivial))))))
  intro n v8 h
  rw [g_IndexFunc_Trade_L1.eq_2] at h
  refine PS.ite h (fun h9 h => ?_) (fun h9 h => ?_)
  · refine OB.grd h (fun h10 h => ?_)
    refine EX.get h (fun x11 h12 h => ?_)
    refine CK.call false [] h (fun _ h => con_i_tradesRight_c1 h) (And.intro (And.intro rfl (And.intro rfl (And.intro rfl (And.intro rfl (And.intro rfl (And.intro rfl (And.intro rfl (And.intro rfl trivial)))))))) (And.intro (And.intro rfl (And.intro rfl (And.intro rfl (And.intro rfl (And.intro rfl (And.intro rfl trivial)))))) trivial)) trivial rfl (fun _ => rfl) (fun _ => Or.inl rfl) (fun y13 h14 h => ?_)
    refine PS.ite h (fun h15 h => ?_) (fun h15 h => ?_)
    · exact lf1 h fun e0 => Exists.intro [] (And.intro rfl (And.intro trivial e0))
    refine NX.next h ?_
    exact Exists.intro [] (And.intro rfl (And.intro trivial (And.intro rfl (And.intro (And.intro rfl (And.intro rfl rfl)) (And.intro rfl (And.intro rfl trivial))))))
  exact lf1 h fun e0 => Exists.intro [] (And.intro rfl (And.intro trivial e0))
theorem con_g_ContainsFunc_Trade {a0 : (List MTrade)} {a1_0_0 : (List MAccount)} {a1_0_1 : (List MInstr)} {a1_0_2 : (List MBal)} {a1_0_3 : (List MLot)} {a1_0_4 : (List MTrade)} {a1_0_5 : Int} {r0 : Bool} (h : g_ContainsFunc_Trade a0 a1_0_0 a1_0_1 a1_0_2 a1_0_3 a1_0_4 a1_0_5 = some r0) : Con Tryz.prog 182 [.sl 8 (List.map MTrade.av a0), .fn (.func 183) [] [.rp [.sl 2 (List.map MAccount.av a1_0_0), .sl 2 (List.map MInstr.av a1_0_1), .sl 3 (List.map MBal.av a1_0_2), .sl 5 (List.map MLot.av a1_0_3), .sl 8 (List.map MTrade.av a1_0_4), .i .i64 a1_0_5]]] [] (.p (r0 = true)) [] := by
  refine con_of_awpF hT mixed (fn := Tryz.f182) Tryz.func182 rfl rfl ?_
  unfold g_ContainsFunc_Trade at h
  refine CK.call false [] h (fun _ h => con_g_IndexFunc_Trade h) (And.intro rfl (And.intro (And.intro rfl (And.intro trivial (And.intro (And.intro rfl (And.intro rfl (And.intro rfl (And.intro rfl (And.intro rfl (And.intro rfl trivial)))))) trivial))) trivial)) trivial rfl (fun _ => rfl) (fun _ => Or.inl rfl) (fun y1 h2 h => ?_)
  exact lf1 h fun e0 => Exists.intro [] (And.intro rfl (And.intro trivial (pqe e0)))
theorem con_i_tradesRight {a0 : MBooks} {r0 : Bool} (h : i_tradesRight a0 = some r0) : Con Tryz.prog 142 [.agg [.sl 2 (List.map MAccount.av a0.Accounts), .sl 2 (List.map MInstr.av a0.Instrs), .sl 3 (List.map MBal.av a0.Bals), .sl 5 (List.map MLot.av a0.Lots), .sl 8 (List.map MTrade.av a0.Trades), .i .i64 a0.Lot]] [] (.p (r0 = true)) [] := by
  refine con_of_awpF hT mixed (fn := Tryz.f142) Tryz.func142 rfl rfl ?_
  unfold i_tradesRight at h
  refine CK.call false [] h (fun _ h => con_g_ContainsFunc_Trade h) (And.intro rfl (And.intro (And.intro rfl (And.intro trivial (And.intro (And.intro rfl (And.intro rfl (And.intro rfl (And.intro rfl (And.intro rfl (And.intro rfl trivial)))))) trivial))) trivial)) trivial rfl (fun _ => rfl) (fun _ => Or.inr (Flat.mk rfl trivial)) (fun y1 h2 h => ?_)
  exact lf1 h fun e0 => Exists.intro [] (And.intro rfl (And.intro trivial (pqe e0)))
theorem con_i_BooksOk {a0 : MBooks} {r0 : Bool} (h : i_BooksOk a0 = some r0) : Con Tryz.prog 74 [.agg [.sl 2 (List.map MAccount.av a0.Accounts), .sl 2 (List.map MInstr.av a0.Instrs), .sl 3 (List.map MBal.av a0.Bals), .sl 5 (List.map MLot.av a0.Lots), .sl 8 (List.map MTrade.av a0.Trades), .i .i64 a0.Lot]] [] (.p (r0 = true)) [] := by
  refine con_of_awpF hT mixed (fn := Tryz.f74) Tryz.func74 rfl rfl ?_
  unfold i_BooksOk at h
  refine CK.call false [] h (fun _ h => con_i_AccountsOk h) (And.intro rfl trivial) trivial rfl (fun _ => rfl) (fun _ => Or.inl rfl) (fun y1 h2 h => ?_)
  refine PS.ite h (fun h3 h => ?_) (fun h3 h => ?_)
  · exact lf1 h fun e0 => Exists.intro [] (And.intro rfl (And.intro trivial (be e0)))
  refine CK.call false [] h (fun _ h => con_i_InstrsOk h) (And.intro rfl trivial) trivial rfl (fun _ => rfl) (fun _ => Or.inl rfl) (fun y4 h5 h => ?_)
  refine PS.ite h (fun h6 h => ?_) (fun h6 h => ?_)
  · exact lf1 h fun e0 => Exists.intro [] (And.intro rfl (And.intro trivial (be e0)))
  refine CK.call false [] h (fun _ h => con_i_BalsOk h) (And.intro rfl trivial) trivial rfl (fun _ => rfl) (fun _ => Or.inl rfl) (fun y7 h8 h => ?_)
  refine PS.ite h (fun h9 h => ?_) (fun h9 h => ?_)
  · exact lf1 h fun e0 => Exists.intro [] (And.intro rfl (And.intro trivial (be e0)))
  refine CK.call false [] h (fun _ h => con_i_LotsOk h) (And.intro rfl trivial) trivial rfl (fun _ => rfl) (fun _ => Or.inl rfl) (fun y10 h11 h => ?_)
  refine PS.ite h (fun h12 h => ?_) (fun h12 h => ?_)
  · exact lf1 h fun e0 => Exists.intro [] (And.intro rfl (And.intro trivial (be e0)))
  refine CK.call false [] h (fun _ h => con_i_TradesOk h) (And.intro rfl trivial) trivial rfl (fun _ => rfl) (fun _ => Or.inl rfl) (fun y13 h14 h => ?_)
  refine PS.ite h (fun h15 h => ?_) (fun h15 h => ?_)
  · exact lf1 h fun e0 => Exists.intro [] (And.intro rfl (And.intro trivial (be e0)))
  refine CK.call false [] h (fun _ h => con_i_in h) (And.intro rfl (And.intro rfl (And.intro rfl trivial))) trivial rfl (fun _ => rfl) (fun _ => Or.inl rfl) (fun y16 h17 h => ?_)
  refine PS.ite h (fun h18 h => ?_) (fun h18 h => ?_)
  · exact lf1 h fun e0 => Exists.intro [] (And.intro rfl (And.intro trivial (be e0)))
  refine CK.call false [] h (fun _ h => con_i_balsRight h) (And.intro (And.intro rfl (And.intro rfl (And.intro rfl (And.intro rfl (And.intro rfl (And.intro rfl trivial)))))) trivial) trivial rfl (fun _ => rfl) (fun _ => Or.inl rfl) (fun y19 h20 h => ?_)
  refine PS.ite h (fun h21 h => ?_) (fun h21 h => ?_)
  · refine CK.call false [] h (fun _ h => con_i_lotsRight h) (And.intro (And.intro rfl (And.intro rfl (And.intro rfl (And.intro rfl (And.intro rfl (And.intro rfl trivial)))))) trivial) trivial rfl (fun _ => rfl) (fun _ => Or.inl rfl) (fun y22 h23 h => ?_)
    refine PS.ite h (fun h24 h => ?_) (fun h24 h => ?_)
    · refine CK.call false [] h (fun _ h => con_i_tradesRight h) (And.intro (And.intro rfl (And.intro rfl (And.intro rfl (And.intro rfl (And.intro rfl (And.intro rfl trivial)))))) trivial) trivial rfl (fun _ => rfl) (fun _ => Or.inl rfl) (fun y25 h26 h => ?_)
      exact lf1 h fun e0 => Exists.intro [] (And.intro rfl (And.intro trivial (be e0)))
    exact lf1 h fun e0 => Exists.intro [] (And.intro rfl (And.intro trivial (be e0)))
  exact lf1 h fun e0 => Exists.intro [] (And.intro rfl (And.intro trivial (be e0)))
theorem con_i_BooksRead {a0 : (List UInt8)} {r0 : (List MAccount)} {r1 : (List MInstr)} {r2 : (List MBal)} {r3 : (List MLot)} {r4 : (List MTrade)} {r5 : Int} {r6 : Bool} (h : i_BooksRead a0 = some (r0, r1, r2, r3, r4, r5, r6)) : Con Tryz.prog 33 [.sl 1 (List.map u8 a0)] [] (.tup [.agg [.own 0, .own 1, .own 2, .own 3, .own 4, .i .i64 r5], .p (r6 = true)]) [some (.arr 2 (List.map MAccount.av r0)), some (.arr 2 (List.map MInstr.av r1)), some (.arr 3 (List.map MBal.av r2)), some (.arr 5 (List.map MLot.av r3)), some (.arr 8 (List.map MTrade.av r4))] := by
  refine con_of_awpF hT mixed (fn := Tryz.f33) Tryz.func33 rfl rfl ?_
  unfold i_BooksRead at h
  refine CK.call false [64] h (fun _ h => con_i_numReader_many h) (And.intro rfl (And.intro rfl trivial)) (And.intro (And.intro rfl (And.intro rfl (And.intro Iff.rfl trivial))) trivial) rfl (fun _ => rfl) (fun _ => Or.inl rfl) (fun y1 h2 h => ?_)
  refine LP.fuel (g := i_BooksRead_L1 a0 y1 _) (fun (v9, v10, v11, v12) => ⟨[(0, .sl 1 (List.map u8 a0)), (2, .ptr 0 0), (4, .ptr 1 0), (5, .ptr 2 0), (14, .i .i64 y1.1), (15, .i .i64 v12), (98, .tup []), (99, .tup []), (100, .tup []), (101, .tup []), (102, .tup []), (103, .tup []), (104, .tup []), (107, .tup []), (108, .tup []), (109, .tup [])], [some (.box [.nil, .nil, .nil, .nil, .nil, .i .i64 ((0 : Int))]), some (.box [.sl 1 (List.map u8 a0), .i .i64 v9, .p (v10 = true)]), some (.box [.own 3, .nil, .nil, .nil, .nil, .i .i64 ((0 : Int))]), some (.arr 2 (List.map MAccount.av v11))]⟩) h (fun _ h => by cases h) ?_ ?_
  · exact Exists.intro [.id 0, .id 64, .id 112, .nl] (And.intro rfl (And.intro (And.intro (And.intro trivial (And.intro trivial (And.intro trivial (And.intro trivial (And.intro trivial (And.intro rfl trivial)))))) (And.intro (And.intro rfl (And.intro rfl (And.intro Iff.rfl trivial))) (And.intro (And.intro trivial (And.intro trivial (And.intro trivial (And.intro trivial (And.intro trivial (And.intro rfl trivial)))))) (And.intro rfl trivial)))) (And.intro rfl (And.intro trivial (And.intro trivial (And.intro trivial (And.intro rfl (And.intro rfl (And.intro trivial (And.intro trivial (And.intro trivial (And.intro trivial (And.intro trivial (And.intro trivial (And.intro trivial (And.intro trivial (And.intro trivial (And.intro trivial trivial))))))))))))))))))
  intro n v h
  obtain ⟨v9, v10, v11, v12⟩ := v
  rw [i_BooksRead_L1.eq_2] at h
  refine PS.ite h (fun h13 h => ?_) (fun h13 h => ?_)
  · refine CK.call false [1] h (fun _ h => con_i_numReader_one h) (And.intro rfl trivial) (And.intro (And.intro rfl (And.intro rfl (And.intro Iff.rfl trivial))) trivial) rfl (fun _ => rfl) (fun _ => Or.inl rfl) (fun y14 h15 h => ?_)
    refine CK.call false [1] h (fun _ h => con_i_numReader_one h) (And.intro rfl trivial) (And.intro (And.intro rfl (And.intro rfl (And.intro Iff.rfl trivial))) trivial) rfl (fun _ => rfl) (fun _ => Or.inl rfl) (fun y16 h17 h => ?_)
    refine RN.to (List.map MAccount.av [(MAccount.mk y14.1 y16.1)]) rfl ?_
    refine OB.app (enc := MAccount.av) (l := [(MAccount.mk y14.1 y16.1)]) rfl (fun _ => rfl) h (fun h18 h => ?_)
    refine RN.to (List.map MAccount.av (v11 ++ [(MAccount.mk y14.1 y16.1)])) List.map_append.symm ?_
    refine OB.mk (by kernel_rfl) ?_
    refine NX.next h ?_
    exact Exists.intro [.id 0, .id 1, .id 2, .id 180] (And.intro rfl (And.intro (And.intro (And.intro trivial (And.intro trivial (And.intro trivial (And.intro trivial (And.intro trivial (And.intro rfl trivial)))))) (And.intro (And.intro rfl (And.intro rfl (And.intro Iff.rfl trivial))) (And.intro (And.intro trivial (And.intro trivial (And.intro trivial (And.intro trivial (And.intro trivial (And.intro rfl trivial)))))) (And.intro rfl trivial)))) (And.intro rfl (And.intro trivial (And.intro trivial (And.intro trivial (And.intro rfl (And.intro rfl (And.intro trivial (And.intro trivial (And.intro trivial (And.intro trivial (And.intro trivial (And.intro trivial (And.intro trivial (And.intro trivial (And.intro trivial (And.intro trivial trivial))))))))))))))))))
  refine CK.call false [1] h (fun _ h => con_i_numReader_many h) (And.intro rfl (And.intro rfl trivial)) (And.intro (And.intro rfl (And.intro rfl (And.intro Iff.rfl trivial))) trivial) rfl (fun _ => rfl) (fun _ => Or.inl rfl) (fun y22 h23 h => ?_)
  refine LP.fuel (g := i_BooksRead_L2 a0 y22 _) (fun (v30, v31, v32, v33) => ⟨[(0, .sl 1 (List.map u8 a0)), (2, .ptr 0 0), (4, .ptr 1 0), (5, .ptr 2 0), (30, .i .i64 y22.1), (31, .i .i64 v33), (98, .tup []), (99, .tup []), (100, .tup []), (101, .tup []), (102, .tup []), (103, .tup []), (104, .tup []), (107, .tup []), (108, .tup []), (109, .tup [])], [some (.box [.nil, .nil, .nil, .nil, .nil, .i .i64 ((0 : Int))]), some (.box [.sl 1 (List.map u8 a0), .i .i64 v30, .p (v31 = true)]), some (.box [.own 3, .own 4, .nil, .nil, .nil, .i .i64 ((0 : Int))]), some (.arr 2 (List.map MAccount.av v11)), some (.arr 2 (List.map MInstr.av v32))]⟩) h (fun _ h => by cases h) ?_ ?_
  · exact Exists.intro [.id 0, .id 1, .id 2, .id 3, .nl] (And.intro rfl (And.intro (And.intro (And.intro trivial (And.intro trivial (And.intro trivial (And.intro trivial (And.intro trivial (And.intro rfl trivial)))))) (And.intro (And.intro rfl (And.intro rfl (And.intro Iff.rfl trivial))) (And.intro (And.intro trivial (And.intro trivial (And.intro trivial (And.intro trivial (And.intro trivial (And.intro rfl trivial)))))) (And.intro rfl (And.intro rfl trivial))))) (And.intro rfl (And.intro trivial (And.intro trivial (And.intro trivial (And.intro rfl (And.intro rfl (And.intro trivial (And.intro trivial (And.intro trivial (And.intro trivial (And.intro trivial (And.intro trivial (And.intro trivial (And.intro trivial (And.intro trivial (And.intro trivial trivial))))))))))))))))))
  intro n v h
  obtain ⟨v30, v31, v32, v33⟩ := v
  rw [i_BooksRead_L2.eq_2] at h
  refine PS.ite h (fun h34 h => ?_) (fun h34 h => ?_)
  · refine CK.call false [1] h (fun _ h => con_i_numReader_one h) (And.intro rfl trivial) (And.intro (And.intro rfl (And.intro rfl (And.intro Iff.rfl trivial))) trivial) rfl (fun _ => rfl) (fun _ => Or.inl rfl) (fun y35 h36 h => ?_)
    refine CK.call false [1] h (fun _ h => con_i_numReader_one h) (And.intro rfl trivial) (And.intro (And.intro rfl (And.intro rfl (And.intro Iff.rfl trivial))) trivial) rfl (fun _ => rfl) (fun _ => Or.inl rfl) (fun y37 h38 h => ?_)
    refine RN.to (List.map MInstr.av [(MInstr.mk y35.1 y37.1)]) rfl ?_
    refine OB.app (enc := MInstr.av) (l := [(MInstr.mk y35.1 y37.1)]) rfl (fun _ => rfl) h (fun h39 h => ?_)
    refine RN.to (List.map MInstr.av (v32 ++ [(MInstr.mk y35.1 y37.1)])) List.map_append.symm ?_
    refine OB.mk (by kernel_rfl) ?_
    refine NX.next h ?_
    exact Exists.intro [.id 0, .id 1, .id 2, .id 3, .id 181] (And.intro rfl (And.intro (And.intro (And.intro trivial (And.intro trivial (And.intro trivial (And.intro trivial (And.intro trivial (And.intro rfl trivial)))))) (And.intro (And.intro rfl (And.intro rfl (And.intro Iff.rfl trivial))) (And.intro (And.intro trivial (And.intro trivial (And.intro trivial (And.intro trivial (And.intro trivial (And.intro rfl trivial)))))) (And.intro rfl (And.intro rfl trivial))))) (And.intro rfl (And.intro trivial (And.intro trivial (And.intro trivial (And.intro rfl (And.intro rfl (And.intro trivial (And.intro trivial (And.intro trivial (And.intro trivial (And.intro trivial (And.intro trivial (And.intro trivial (And.intro trivial (And.intro trivial (And.intro trivial trivial))))))))))))))))))
  refine CK.call false [1] h (fun _ h => con_i_numReader_many h) (And.intro rfl (And.intro rfl trivial)) (And.intro (And.intro rfl (And.intro rfl (And.intro Iff.rfl trivial))) trivial) rfl (fun _ => rfl) (fun _ => Or.inl rfl) (fun y43 h44 h => ?_)
  refine LP.fuel (g := i_BooksRead_L3 a0 y43 _) (fun (v53, v54, v55, v56) => ⟨[(0, .sl 1 (List.map u8 a0)), (2, .ptr 0 0), (4, .ptr 1 0), (5, .ptr 2 0), (46, .i .i64 y43.1), (47, .i .i64 v56), (98, .tup []), (99, .tup []), (100, .tup []), (101, .tup []), (102, .tup []), (103, .tup []), (104, .tup []), (107, .tup []), (108, .tup []), (109, .tup [])], [some (.box [.nil, .nil, .nil, .nil, .nil, .i .i64 ((0 : Int))]), some (.box [.sl 1 (List.map u8 a0), .i .i64 v53, .p (v54 = true)]), some (.box [.own 3, .own 4, .own 5, .nil, .nil, .i .i64 ((0 : Int))]), some (.arr 2 (List.map MAccount.av v11)), some (.arr 2 (List.map MInstr.av v32)), some (.arr 3 (List.map MBal.av v55))]⟩) h (fun _ h => by cases h) ?_ ?_
  · exact Exists.intro [.id 0, .id 1, .id 2, .id 3, .id 4, .nl] (And.intro rfl (And.intro (And.intro (And.intro trivial (And.intro trivial (And.intro trivial (And.intro trivial (And.intro trivial (And.intro rfl trivial)))))) (And.intro (And.intro rfl (And.intro rfl (And.intro Iff.rfl trivial))) (And.intro (And.intro trivial (And.intro trivial (And.intro trivial (And.intro trivial (And.intro trivial (And.intro rfl trivial)))))) (And.intro rfl (And.intro rfl (And.intro rfl trivial)))))) (And.intro rfl (And.intro trivial (And.intro trivial (And.intro trivial (And.intro rfl (And.intro rfl (And.intro trivial (And.intro trivial (And.intro trivial (And.intro trivial (And.intro trivial (And.intro trivial (And.intro trivial (And.intro trivial (And.intro trivial (And.intro trivial trivial))))))))))))))))))
  intro n v h
  obtain ⟨v53, v54, v55, v56⟩ := v
  rw [i_BooksRead_L3.eq_2] at h
  refine PS.ite h (fun h57 h => ?_) (fun h57 h => ?_)
  · refine CK.call false [1] h (fun _ h => con_i_numReader_one h) (And.intro rfl trivial) (And.intro (And.intro rfl (And.intro rfl (And.intro Iff.rfl trivial))) trivial) rfl (fun _ => rfl) (fun _ => Or.inl rfl) (fun y58 h59 h => ?_)
    refine CK.call false [1] h (fun _ h => con_i_numReader_one h) (And.intro rfl trivial) (And.intro (And.intro rfl (And.intro rfl (And.intro Iff.rfl trivial))) trivial) rfl (fun _ => rfl) (fun _ => Or.inl rfl) (fun y60 h61 h => ?_)
    refine CK.call false [1] h (fun _ h => con_i_numReader_one h) (And.intro rfl trivial) (And.intro (And.intro rfl (And.intro rfl (And.intro Iff.rfl trivial))) trivial) rfl (fun _ => rfl) (fun _ => Or.inl rfl) (fun y62 h63 h => ?_)
    refine RN.to (List.map MBal.av [(MBal.mk y58.1 y60.1 (w64 (y62.1 - (1000000000000000 : Int))))]) rfl ?_
    refine OB.app (enc := MBal.av) (l := [(MBal.mk y58.1 y60.1 (w64 (y62.1 - (1000000000000000 : Int))))]) rfl (fun _ => rfl) h (fun h64 h => ?_)
    refine RN.to (List.map MBal.av (v55 ++ [(MBal.mk y58.1 y60.1 (w64 (y62.1 - (1000000000000000 : Int))))])) List.map_append.symm ?_
    refine NX.next h ?_
    exact Exists.intro [.id 0, .id 1, .id 2, .id 3, .id 4, .id 310] (And.intro rfl (And.intro (And.intro (And.intro trivial (And.intro trivial (And.intro trivial (And.intro trivial (And.intro trivial (And.intro rfl trivial)))))) (And.intro (And.intro rfl (And.intro rfl (And.intro Iff.rfl trivial))) (And.intro (And.intro trivial (And.intro trivial (And.intro trivial (And.intro trivial (And.intro trivial (And.intro rfl trivial)))))) (And.intro rfl (And.intro rfl (And.intro rfl trivial)))))) (And.intro rfl (And.intro trivial (And.intro trivial (And.intro trivial (And.intro rfl (And.intro rfl (And.intro trivial (And.intro trivial (And.intro trivial (And.intro trivial (And.intro trivial (And.intro trivial (And.intro trivial (And.intro trivial (And.intro trivial (And.intro trivial trivial))))))))))))))))))
  refine CK.call false [1] h (fun _ h => con_i_numReader_many h) (And.intro rfl (And.intro rfl trivial)) (And.intro (And.intro rfl (And.intro rfl (And.intro Iff.rfl trivial))) trivial) rfl (fun _ => rfl) (fun _ => Or.inl rfl) (fun y68 h69 h => ?_)
  refine LP.fuel (g := i_BooksRead_L4 a0 y68 _) (fun (v74, v75, v76, v77) => ⟨[(0, .sl 1 (List.map u8 a0)), (2, .ptr 0 0), (4, .ptr 1 0), (5, .ptr 2 0), (67, .i .i64 y68.1), (68, .i .i64 v77), (98, .tup []), (99, .tup []), (100, .tup []), (101, .tup []), (102, .tup []), (103, .tup []), (104, .tup []), (107, .tup []), (108, .tup []), (109, .tup [])], [some (.box [.nil, .nil, .nil, .nil, .nil, .i .i64 ((0 : Int))]), some (.box [.sl 1 (List.map u8 a0), .i .i64 v74, .p (v75 = true)]), some (.box [.own 3, .own 4, .own 5, .own 6, .nil, .i .i64 ((0 : Int))]), some (.arr 2 (List.map MAccount.av v11)), some (.arr 2 (List.map MInstr.av v32)), some (.arr 3 (List.map MBal.av v55)), some (.arr 5 (List.map MLot.av v76))]⟩) h (fun _ h => by cases h) ?_ ?_
  · exact Exists.intro [.id 0, .id 1, .id 2, .id 3, .id 4, .id 5, .nl] (And.intro rfl (And.intro (And.intro (And.intro trivial (And.intro trivial (And.intro trivial (And.intro trivial (And.intro trivial (And.intro rfl trivial)))))) (And.intro (And.intro rfl (And.intro rfl (And.intro Iff.rfl trivial))) (And.intro (And.intro trivial (And.intro trivial (And.intro trivial (And.intro trivial (And.intro trivial (And.intro rfl trivial)))))) (And.intro rfl (And.intro rfl (And.intro rfl (And.intro rfl trivial))))))) (And.intro rfl (And.intro trivial (And.intro trivial (And.intro trivial (And.intro rfl (And.intro rfl (And.intro trivial (And.intro trivial (And.intro trivial (And.intro trivial (And.intro trivial (And.intro trivial (And.intro trivial (And.intro trivial (And.intro trivial (And.intro trivial trivial))))))))))))))))))
  intro n v h
  obtain ⟨v74, v75, v76, v77⟩ := v
  rw [i_BooksRead_L4.eq_2] at h
  refine PS.ite h (fun h78 h => ?_) (fun h78 h => ?_)
  · refine CK.call false [1] h (fun _ h => con_i_numReader_lot h) (And.intro rfl trivial) (And.intro (And.intro rfl (And.intro rfl (And.intro Iff.rfl trivial))) trivial) rfl (fun _ => rfl) (fun _ => Or.inl rfl) (fun y79 h80 h => ?_)
    refine RN.to (List.map MLot.av [(MLot.mk y79.1 y79.2.1 y79.2.2.1 y79.2.2.2.1 y79.2.2.2.2.1)]) rfl ?_
    refine OB.app (enc := MLot.av) (l := [(MLot.mk y79.1 y79.2.1 y79.2.2.1 y79.2.2.2.1 y79.2.2.2.2.1)]) rfl (fun _ => rfl) h (fun h81 h => ?_)
    refine RN.to (List.map MLot.av (v76 ++ [(MLot.mk y79.1 y79.2.1 y79.2.2.1 y79.2.2.2.1 y79.2.2.2.2.1)])) List.map_append.symm ?_
    refine OB.mk (by kernel_rfl) ?_
    refine NX.next h ?_
    exact Exists.intro [.id 0, .id 1, .id 2, .id 3, .id 4, .id 5, .id 103] (And.intro rfl (And.intro (And.intro (And.intro trivial (And.intro trivial (And.intro trivial (And.intro trivial (And.intro trivial (And.intro rfl trivial)))))) (And.intro (And.intro rfl (And.intro rfl (And.intro Iff.rfl trivial))) (And.intro (And.intro trivial (And.intro trivial (And.intro trivial (And.intro trivial (And.intro trivial (And.intro rfl trivial)))))) (And.intro rfl (And.intro rfl (And.intro rfl (And.intro rfl trivial))))))) (And.intro rfl (And.intro trivial (And.intro trivial (And.intro trivial (And.intro rfl (And.intro rfl (And.intro trivial (And.intro trivial (And.intro trivial (And.intro trivial (And.intro trivial (And.intro trivial (And.intro trivial (And.intro trivial (And.intro trivial (And.intro trivial trivial))))))))))))))))))
  refine CK.call false [1] h (fun _ h => con_i_numReader_many h) (And.intro rfl (And.intro rfl trivial)) (And.intro (And.intro rfl (And.intro rfl (And.intro Iff.rfl trivial))) trivial) rfl (fun _ => rfl) (fun _ => Or.inl rfl) (fun y85 h86 h => ?_)
  refine LP.fuel (g := i_BooksRead_L5 a0 y85 _) (fun (v91, v92, v93, v94) => ⟨[(0, .sl 1 (List.map u8 a0)), (2, .ptr 0 0), (4, .ptr 1 0), (5, .ptr 2 0), (79, .i .i64 y85.1), (80, .i .i64 v94), (98, .tup []), (99, .tup []), (100, .tup []), (101, .tup []), (102, .tup []), (103, .tup []), (104, .tup []), (107, .tup []), (108, .tup []), (109, .tup [])], [some (.box [.nil, .nil, .nil, .nil, .nil, .i .i64 ((0 : Int))]), some (.box [.sl 1 (List.map u8 a0), .i .i64 v91, .p (v92 = true)]), some (.box [.own 3, .own 4, .own 5, .own 6, .own 7, .i .i64 ((0 : Int))]), some (.arr 2 (List.map MAccount.av v11)), some (.arr 2 (List.map MInstr.av v32)), some (.arr 3 (List.map MBal.av v55)), some (.arr 5 (List.map MLot.av v76)), some (.arr 8 (List.map MTrade.av v93))]⟩) h (fun _ h => by cases h) ?_ ?_
  · exact Exists.intro [.id 0, .id 1, .id 2, .id 3, .id 4, .id 5, .id 6, .nl] (And.intro rfl (And.intro (And.intro (And.intro trivial (And.intro trivial (And.intro trivial (And.intro trivial (And.intro trivial (And.intro rfl trivial)))))) (And.intro (And.intro rfl (And.intro rfl (And.intro Iff.rfl trivial))) (And.intro (And.intro trivial (And.intro trivial (And.intro trivial (And.intro trivial (And.intro trivial (And.intro rfl trivial)))))) (And.intro rfl (And.intro rfl (And.intro rfl (And.intro rfl (And.intro rfl trivial)))))))) (And.intro rfl (And.intro trivial (And.intro trivial (And.intro trivial (And.intro rfl (And.intro rfl (And.intro trivial (And.intro trivial (And.intro trivial (And.intro trivial (And.intro trivial (And.intro trivial (And.intro trivial (And.intro trivial (And.intro trivial (And.intro trivial trivial))))))))))))))))))
  intro n v h
  obtain ⟨v91, v92, v93, v94⟩ := v
  rw [i_BooksRead_L5.eq_2] at h
  refine PS.ite h (fun h95 h => ?_) (fun h95 h => ?_)
  · refine CK.call false [1] h (fun _ h => con_i_numReader_trade h) (And.intro rfl trivial) (And.intro (And.intro rfl (And.intro rfl (And.intro Iff.rfl trivial))) trivial) rfl (fun _ => rfl) (fun _ => Or.inl rfl) (fun y96 h97 h => ?_)
    refine RN.to (List.map MTrade.av [(MTrade.mk y96.1 y96.2.1 y96.2.2.1 y96.2.2.2.1 y96.2.2.2.2.1 y96.2.2.2.2.2.1 y96.2.2.2.2.2.2.1 y96.2.2.2.2.2.2.2.1)]) rfl ?_
    refine OB.app (enc := MTrade.av) (l := [(MTrade.mk y96.1 y96.2.1 y96.2.2.1 y96.2.2.2.1 y96.2.2.2.2.1 y96.2.2.2.2.2.1 y96.2.2.2.2.2.2.1 y96.2.2.2.2.2.2.2.1)]) rfl (fun _ => rfl) h (fun h98 h => ?_)
    refine RN.to (List.map MTrade.av (v93 ++ [(MTrade.mk y96.1 y96.2.1 y96.2.2.1 y96.2.2.2.1 y96.2.2.2.2.1 y96.2.2.2.2.2.1 y96.2.2.2.2.2.2.1 y96.2.2.2.2.2.2.2.1)])) List.map_append.symm ?_
    refine OB.mk (by kernel_rfl) ?_
    refine NX.next h ?_
    exact Exists.intro [.id 0, .id 1, .id 2, .id 3, .id 4, .id 5, .id 6, .id 104] (And.intro rfl (And.intro (And.intro (And.intro trivial (And.intro trivial (And.intro trivial (And.intro trivial (And.intro trivial (And.intro rfl trivial)))))) (And.intro (And.intro rfl (And.intro rfl (And.intro Iff.rfl trivial))) (And.intro (And.intro trivial (And.intro trivial (And.intro trivial (And.intro trivial (And.intro trivial (And.intro rfl trivial)))))) (And.intro rfl (And.intro rfl (And.intro rfl (And.intro rfl (And.intro rfl trivial)))))))) (And.intro rfl (And.intro trivial (And.intro trivial (And.intro trivial (And.intro rfl (And.intro rfl (And.intro trivial (And.intro trivial (And.intro trivial (And.intro trivial (And.intro trivial (And.intro trivial (And.intro trivial (And.intro trivial (And.intro trivial (And.intro trivial trivial))))))))))))))))))
  refine CK.call false [1] h (fun _ h => con_i_numReader_one h) (And.intro rfl trivial) (And.intro (And.intro rfl (And.intro rfl (And.intro Iff.rfl trivial))) trivial) rfl (fun _ => rfl) (fun _ => Or.inl rfl) (fun y102 h103 h => ?_)
  refine PS.ite h (fun h104 h => ?_) (fun h104 h => ?_)
  · exact lf7 h fun e0 e1 e2 e3 e4 e5 e6 => Exists.intro [.nl, .nl, .nl, .nl, .nl] (And.intro rfl (And.intro (And.intro (mpn e0) (And.intro (mpn e1) (And.intro (mpn e2) (And.intro (mpn e3) (And.intro (mpn e4) trivial))))) (And.intro (And.intro trivial (And.intro trivial (And.intro trivial (And.intro trivial (And.intro trivial (And.intro e5 trivial)))))) (And.intro (be e6) trivial))))
  refine HY.mk (fun _ => ?_)
  refine PS.ite h (fun h105 h => ?_) (fun h105 h => ?_)
  · exact lf7 h fun e0 e1 e2 e3 e4 e5 e6 => Exists.intro [.nl, .nl, .nl, .nl, .nl] (And.intro rfl (And.intro (And.intro (mpn e0) (And.intro (mpn e1) (And.intro (mpn e2) (And.intro (mpn e3) (And.intro (mpn e4) trivial))))) (And.intro (And.intro trivial (And.intro trivial (And.intro trivial (And.intro trivial (And.intro trivial (And.intro e5 trivial)))))) (And.intro (be e6) trivial))))
  refine CK.call false [] h (fun _ h => con_i_BooksOk h) (And.intro (And.intro rfl (And.intro rfl (And.intro rfl (And.intro rfl (And.intro rfl (And.intro rfl trivial)))))) trivial) trivial rfl (fun _ => rfl) (fun _ => Or.inr (Flat.mk rfl trivial)) (fun y106 h107 h => ?_)
  refine PS.ite h (fun h108 h => ?_) (fun h108 h => ?_)
  · exact lf7 h fun e0 e1 e2 e3 e4 e5 e6 => Exists.intro [.nl, .nl, .nl, .nl, .nl] (And.intro rfl (And.intro (And.intro (mpn e0) (And.intro (mpn e1) (And.intro (mpn e2) (And.intro (mpn e3) (And.intro (mpn e4) trivial))))) (And.intro (And.intro trivial (And.intro trivial (And.intro trivial (And.intro trivial (And.intro trivial (And.intro e5 trivial)))))) (And.intro (be e6) trivial))))
  exact lf7 h fun e0 e1 e2 e3 e4 e5 e6 => Exists.intro [.id 3, .id 4, .id 5, .id 6, .id 7] (And.intro rfl (And.intro (And.intro (mpe e0) (And.intro (mpe e1) (And.intro (mpe e2) (And.intro (mpe e3) (And.intro (mpe e4) trivial))))) (And.intro (And.intro trivial (And.intro trivial (And.intro trivial (And.intro trivial (And.intro trivial (And.intro e5 trivial)))))) (And.intro (be e6) trivial))))
theorem con_i_PutNums_c1 {a0 : Int} {r0 : Bool} (h : i_PutNums_c1 a0 = some r0) : Con Tryz.prog 185 [.i .i64 a0] [] (.p (r0 = true)) [] := by
  refine con_of_awpF hT mixed (fn := Tryz.f185) Tryz.func185 rfl rfl ?_
  unfold i_PutNums_c1 at h
  exact lf1 h fun e0 => Exists.intro [] (And.intro rfl (And.intro trivial (pqe e0)))
theorem con_g_IndexFunc_int {a0 : (List Int)} {r0 : Int} (h : g_IndexFunc_int a0 = some r0) : Con Tryz.prog 197 [.sl 1 (List.map iv a0), .fn (.func 185) [] []] [] (.i .i64 r0) [] := by
  refine con_of_awpF hT mixed (fn := Tryz.f197) Tryz.func197 rfl rfl ?_
  unfold g_IndexFunc_int at h
  refine HY.mk (fun _ => ?_)
  refine LP.fuel (g := g_IndexFunc_int_L1 a0 _) (fun v8 => ⟨[(0, .sl 1 (List.map iv a0)), (1, .fn (.func 185) [] []), (7, .i .i64 ((ln (List.map iv a0)))), (8, .i .i64 v8)], []⟩) h (fun _ h => by cases h) ?_ ?_
  · exact Exists.intro [] (And.intro rfl (And.intro trivial (And.intro rfl (And.intro (And.intro rfl (And.intro rfl rfl)) (And.intro rfl (And.intro rfl trivial))))))
  intro n v8 h
  rw [g_IndexFunc_int_L1.eq_2] at h
  refine PS.ite h (fun h9 h => ?_) (fun h9 h => ?_)
  · refine OB.grd h (fun h10 h => ?_)
    refine EX.get h (fun x11 h12 h => ?_)
    refine CK.call false [] h (fun _ h => con_i_PutNums_c1 h) (And.intro rfl trivial) trivial rfl (fun _ => rfl) (fun _ => Or.inl rfl) (fun y13 h14 h => ?_)
    refine PS.ite h (fun h15 h => ?_) (fun h15 h => ?_)
    · exact lf1 h fun e0 => Exists.intro [] (And.intro rfl (And.intro trivial e0))
    refine NX.next h ?_
    exact Exists.intro [] (And.intro rfl (And.intro trivial (And.intro rfl (And.intro (And.intro rfl (And.intro rfl rfl)) (And.intro rfl (And.intro rfl trivial))))))
  exact lf1 h fun e0 => Exists.intro [] (And.intro rfl (And.intro trivial e0))
theorem con_g_ContainsFunc_int {a0 : (List Int)} {r0 : Bool} (h : g_ContainsFunc_int a0 = some r0) : Con Tryz.prog 184 [.sl 1 (List.map iv a0), .fn (.func 185) [] []] [] (.p (r0 = true)) [] := by
  refine con_of_awpF hT mixed (fn := Tryz.f184) Tryz.func184 rfl rfl ?_
  unfold g_ContainsFunc_int at h
  refine CK.call false [] h (fun _ h => con_g_IndexFunc_int h) (And.intro rfl (And.intro (And.intro rfl (And.intro trivial trivial)) trivial)) trivial rfl (fun _ => rfl) (fun _ => Or.inl rfl) (fun y1 h2 h => ?_)
  exact lf1 h fun e0 => Exists.intro [] (And.intro rfl (And.intro trivial (pqe e0)))
theorem con_i_PutNum {a0 : Int} {r0 : (List UInt8)} (h : i_PutNum a0 = some r0) : Con Tryz.prog 77 [.i .i64 a0] [] (.own 0) [some (.arr 1 (List.map u8 r0))] := by
  refine con_of_awpF hT mixed (fn := Tryz.f77) Tryz.func77 rfl rfl ?_
  unfold i_PutNum at h
  refine PS.ite h (fun h1 h => ?_) (fun h1 h => ?_)
  · exact lf1 h fun e0 => Exists.intro [.nl] (And.intro rfl (And.intro (And.intro (mpn e0) trivial) trivial))
  refine RN.to (List.map u8 ([] : List UInt8)) rfl ?_
  refine LP.fuel (g := i_PutNum_L1 _) (fun (v4, v5) => ⟨[(0, .i .i64 v4), (3, .own 0)], [some (.arr 1 (List.map u8 v5))]⟩) h (fun _ h => by cases h) ?_ ?_
  · exact Exists.intro [.id 48] (And.intro rfl (And.intro (And.intro rfl trivial) (And.intro rfl (And.intro trivial trivial))))
  intro n v h
  obtain ⟨v4, v5⟩ := v
  rw [i_PutNum_L1.eq_2] at h
  refine PS.ite h (fun h6 h => ?_) (fun h6 h => ?_)
  · refine RN.to (List.map u8 [(byteOf (bor .i64 (band .i64 v4 (127 : Int)) (128 : Int)))]) ((consE (u8_of _) rfl)) ?_
    refine OB.app (enc := u8) (l := [(byteOf (bor .i64 (band .i64 v4 (127 : Int)) (128 : Int)))]) rfl (fun _ => rfl) h (fun h7 h => ?_)
    refine RN.to (List.map u8 (v5 ++ [(byteOf (bor .i64 (band .i64 v4 (127 : Int)) (128 : Int)))])) List.map_append.symm ?_
    refine NX.next h ?_
    exact Exists.intro [.id 129] (And.intro rfl (And.intro (And.intro rfl trivial) (And.intro rfl (And.intro trivial trivial))))
  refine RN.to (List.map u8 [(byteOf v4)]) ((consE (u8_of _) rfl)) ?_
  refine OB.app (enc := u8) (l := [(byteOf v4)]) rfl (fun _ => rfl) h (fun h10 h => ?_)
  refine RN.to (List.map u8 (v5 ++ [(byteOf v4)])) List.map_append.symm ?_
  exact lf1 h fun e0 => Exists.intro [.id 97] (And.intro rfl (And.intro (And.intro (mpe e0) trivial) trivial))
theorem con_i_PutNums {a0 : (List Int)} {r0 : (List UInt8)} (h : i_PutNums a0 = some r0) : Con Tryz.prog 143 [.sl 1 (List.map iv a0)] [] (.own 0) [some (.arr 1 (List.map u8 r0))] := by
  refine con_of_awpF hT mixed (fn := Tryz.f143) Tryz.func143 rfl rfl ?_
  unfold i_PutNums at h
  refine CK.call false [] h (fun _ h => con_g_ContainsFunc_int h) (And.intro rfl (And.intro (And.intro rfl (And.intro trivial trivial)) trivial)) trivial rfl (fun _ => rfl) (fun _ => Or.inl rfl) (fun y1 h2 h => ?_)
  refine PS.ite h (fun h3 h => ?_) (fun h3 h => ?_)
  · exact lf1 h fun e0 => Exists.intro [.nl] (And.intro rfl (And.intro (And.intro (mpn e0) trivial) trivial))
  refine RN.to (List.map u8 ([] : List UInt8)) rfl ?_
  refine HY.mk (fun _ => ?_)
  refine LP.fuel (g := i_PutNums_L1 a0 _) (fun (v11, v12) => ⟨[(3, .own 0), (9, .sl 1 (List.map iv a0)), (10, .i .i64 ((ln (List.map iv a0)))), (11, .i .i64 v12)], [some (.arr 1 (List.map u8 v11))]⟩) h (fun _ h => by cases h) ?_ ?_
  · exact Exists.intro [.id 48] (And.intro rfl (And.intro (And.intro rfl trivial) (And.intro trivial (And.intro rfl (And.intro rfl (And.intro rfl trivial))))))
  intro n v h
  obtain ⟨v11, v12⟩ := v
  rw [i_PutNums_L1.eq_2] at h
  refine PS.ite h (fun h13 h => ?_) (fun h13 h => ?_)
  · refine OB.grd h (fun h14 h => ?_)
    refine EX.get h (fun x15 h16 h => ?_)
    refine CK.call false [] h (fun _ h => con_i_PutNum h) (And.intro rfl trivial) trivial rfl (fun _ => rfl) (fun _ => Or.inl rfl) (fun y17 h18 h => ?_)
    refine RN.mk ?_
    refine OB.app (enc := u8) (l := y17) rfl (fun _ => rfl) h (fun h19 h => ?_)
    refine RN.to (List.map u8 (v11 ++ y17)) List.map_append.symm ?_
    refine NX.next h ?_
    exact Exists.intro [.id 113] (And.intro rfl (And.intro (And.intro rfl trivial) (And.intro trivial (And.intro rfl (And.intro rfl (And.intro rfl trivial))))))
  exact lf1 h fun e0 => Exists.intro [.id 0] (And.intro rfl (And.intro (And.intro (mpe e0) trivial) trivial))
theorem con_i_BooksPack {a0 : MBooks} {r0 : (List UInt8)} {r1 : Bool} (h : i_BooksPack a0 = some (r0, r1)) : Con Tryz.prog 75 [.agg [.sl 2 (List.map MAccount.av a0.Accounts), .sl 2 (List.map MInstr.av a0.Instrs), .sl 3 (List.map MBal.av a0.Bals), .sl 5 (List.map MLot.av a0.Lots), .sl 8 (List.map MTrade.av a0.Trades), .i .i64 a0.Lot]] [] (.tup [.own 0, .p (r1 = true)]) [some (.arr 1 (List.map u8 r0))] := by
  refine con_of_awpF hT mixed (fn := Tryz.f75) Tryz.func75 rfl rfl ?_
  unfold i_BooksPack at h
  refine CK.call false [] h (fun _ h => con_i_BooksOk h) (And.intro (And.intro rfl (And.intro rfl (And.intro rfl (And.intro rfl (And.intro rfl (And.intro rfl trivial)))))) trivial) trivial rfl (fun _ => rfl) (fun _ => Or.inl rfl) (fun y1 h2 h => ?_)
  refine PS.ite h (fun h3 h => ?_) (fun h3 h => ?_)
  · exact lf2 h fun e0 e1 => Exists.intro [.nl] (And.intro rfl (And.intro (And.intro (mpn e0) trivial) (And.intro trivial (And.intro (be e1) trivial))))
  refine HY.mk (fun _ => ?_)
  refine RN.to (List.map iv [(ln (List.map MAccount.av a0.Accounts))]) rfl ?_
  refine HY.mk (fun _ => ?_)
  refine LP.fuel (g := i_BooksPack_L1 a0 _) (fun (v9, v10) => ⟨[(1, .ptr 0 0), (4, .own 1), (23, .sl 2 (List.map MAccount.av a0.Accounts)), (24, .i .i64 ((ln (List.map MAccount.av a0.Accounts)))), (25, .i .i64 v10)], [some (.box [.sl 2 (List.map MAccount.av a0.Accounts), .sl 2 (List.map MInstr.av a0.Instrs), .sl 3 (List.map MBal.av a0.Bals), .sl 5 (List.map MLot.av a0.Lots), .sl 8 (List.map MTrade.av a0.Trades), .i .i64 a0.Lot]), some (.arr 1 (List.map iv v9))]⟩) h (fun _ h => by cases h) ?_ ?_
  · exact Exists.intro [.id 0, .id 144] (And.intro rfl (And.intro (And.intro (And.intro rfl (And.intro rfl (And.intro rfl (And.intro rfl (And.intro rfl (And.intro rfl trivial)))))) (And.intro rfl trivial)) (And.intro trivial (And.intro trivial (And.intro rfl (And.intro rfl (And.intro rfl trivial)))))))
  intro n v h
  obtain ⟨v9, v10⟩ := v
  rw [i_BooksPack_L1.eq_2] at h
  refine PS.ite h (fun h11 h => ?_) (fun h11 h => ?_)
  · refine OB.grd h (fun h12 h => ?_)
    refine EX.get h (fun x13 h14 h => ?_)
    refine RN.to (List.map iv [x13.No, x13.Kind]) rfl ?_
    refine OB.app (enc := iv) (l := [x13.No, x13.Kind]) rfl (fun _ => rfl) h (fun h15 h => ?_)
    refine RN.to (List.map iv (v9 ++ [x13.No, x13.Kind])) List.map_append.symm ?_
    refine NX.next h ?_
    exact Exists.intro [.id 0, .id 178] (And.intro rfl (And.intro (And.intro (And.intro rfl (And.intro rfl (And.intro rfl (And.intro rfl (And.intro rfl (And.intro rfl trivial)))))) (And.intro rfl trivial)) (And.intro trivial (And.intro trivial (And.intro rfl (And.intro rfl (And.intro rfl trivial)))))))
  refine HY.mk (fun _ => ?_)
  refine RN.to (List.map iv [(ln (List.map MInstr.av a0.Instrs))]) rfl ?_
  refine OB.app (enc := iv) (l := [(ln (List.map MInstr.av a0.Instrs))]) rfl (fun _ => rfl) h (fun h17 h => ?_)
  refine RN.to (List.map iv (v9 ++ [(ln (List.map MInstr.av a0.Instrs))])) List.map_append.symm ?_
  refine HY.mk (fun _ => ?_)
  refine LP.fuel (g := i_BooksPack_L2 a0 _) (fun (v23, v24) => ⟨[(1, .ptr 0 0), (4, .own 1), (44, .sl 2 (List.map MInstr.av a0.Instrs)), (45, .i .i64 ((ln (List.map MInstr.av a0.Instrs)))), (46, .i .i64 v24)], [some (.box [.sl 2 (List.map MAccount.av a0.Accounts), .sl 2 (List.map MInstr.av a0.Instrs), .sl 3 (List.map MBal.av a0.Bals), .sl 5 (List.map MLot.av a0.Lots), .sl 8 (List.map MTrade.av a0.Trades), .i .i64 a0.Lot]), some (.arr 1 (List.map iv v23))]⟩) h (fun _ h => by cases h) ?_ ?_
  · exact Exists.intro [.id 0, .id 98] (And.intro rfl (And.intro (And.intro (And.intro rfl (And.intro rfl (And.intro rfl (And.intro rfl (And.intro rfl (And.intro rfl trivial)))))) (And.intro rfl trivial)) (And.intro trivial (And.intro trivial (And.intro rfl (And.intro rfl (And.intro rfl trivial)))))))
  intro n v h
  obtain ⟨v23, v24⟩ := v
  rw [i_BooksPack_L2.eq_2] at h
  refine PS.ite h (fun h25 h => ?_) (fun h25 h => ?_)
  · refine OB.grd h (fun h26 h => ?_)
    refine EX.get h (fun x27 h28 h => ?_)
    refine RN.to (List.map iv [x27.No, x27.Kind]) rfl ?_
    refine OB.app (enc := iv) (l := [x27.No, x27.Kind]) rfl (fun _ => rfl) h (fun h29 h => ?_)
    refine RN.to (List.map iv (v23 ++ [x27.No, x27.Kind])) List.map_append.symm ?_
    refine NX.next h ?_
    exact Exists.intro [.id 0, .id 178] (And.intro rfl (And.intro (And.intro (And.intro rfl (And.intro rfl (And.intro rfl (And.intro rfl (And.intro rfl (And.intro rfl trivial)))))) (And.intro rfl trivial)) (And.intro trivial (And.intro trivial (And.intro rfl (And.intro rfl (And.intro rfl trivial)))))))
  refine HY.mk (fun _ => ?_)
  refine RN.to (List.map iv [(ln (List.map MBal.av a0.Bals))]) rfl ?_
  refine OB.app (enc := iv) (l := [(ln (List.map MBal.av a0.Bals))]) rfl (fun _ => rfl) h (fun h31 h => ?_)
  refine RN.to (List.map iv (v23 ++ [(ln (List.map MBal.av a0.Bals))])) List.map_append.symm ?_
  refine HY.mk (fun _ => ?_)
  refine LP.fuel (g := i_BooksPack_L3 a0 _) (fun (v37, v38) => ⟨[(1, .ptr 0 0), (4, .own 1), (65, .sl 3 (List.map MBal.av a0.Bals)), (66, .i .i64 ((ln (List.map MBal.av a0.Bals)))), (67, .i .i64 v38)], [some (.box [.sl 2 (List.map MAccount.av a0.Accounts), .sl 2 (List.map MInstr.av a0.Instrs), .sl 3 (List.map MBal.av a0.Bals), .sl 5 (List.map MLot.av a0.Lots), .sl 8 (List.map MTrade.av a0.Trades), .i .i64 a0.Lot]), some (.arr 1 (List.map iv v37))]⟩) h (fun _ h => by cases h) ?_ ?_
  · exact Exists.intro [.id 0, .id 98] (And.intro rfl (And.intro (And.intro (And.intro rfl (And.intro rfl (And.intro rfl (And.intro rfl (And.intro rfl (And.intro rfl trivial)))))) (And.intro rfl trivial)) (And.intro trivial (And.intro trivial (And.intro rfl (And.intro rfl (And.intro rfl trivial)))))))
  intro n v h
  obtain ⟨v37, v38⟩ := v
  rw [i_BooksPack_L3.eq_2] at h
  refine PS.ite h (fun h39 h => ?_) (fun h39 h => ?_)
  · refine OB.grd h (fun h40 h => ?_)
    refine EX.get h (fun x41 h42 h => ?_)
    refine RN.to (List.map iv [x41.Account, x41.Instr, w64 (x41.Amount + (1000000000000000 : Int))]) rfl ?_
    refine OB.app (enc := iv) (l := [x41.Account, x41.Instr, w64 (x41.Amount + (1000000000000000 : Int))]) rfl (fun _ => rfl) h (fun h43 h => ?_)
    refine RN.to (List.map iv (v37 ++ [x41.Account, x41.Instr, w64 (x41.Amount + (1000000000000000 : Int))])) List.map_append.symm ?_
    refine NX.next h ?_
    exact Exists.intro [.id 0, .id 226] (And.intro rfl (And.intro (And.intro (And.intro rfl (And.intro rfl (And.intro rfl (And.intro rfl (And.intro rfl (And.intro rfl trivial)))))) (And.intro rfl trivial)) (And.intro trivial (And.intro trivial (And.intro rfl (And.intro rfl (And.intro rfl trivial)))))))
  refine HY.mk (fun _ => ?_)
  refine RN.to (List.map iv [(ln (List.map MLot.av a0.Lots))]) rfl ?_
  refine OB.app (enc := iv) (l := [(ln (List.map MLot.av a0.Lots))]) rfl (fun _ => rfl) h (fun h45 h => ?_)
  refine RN.to (List.map iv (v37 ++ [(ln (List.map MLot.av a0.Lots))])) List.map_append.symm ?_
  refine HY.mk (fun _ => ?_)
  refine LP.fuel (g := i_BooksPack_L4 a0 _) (fun (v51, v52) => ⟨[(1, .ptr 0 0), (4, .own 1), (89, .sl 5 (List.map MLot.av a0.Lots)), (90, .i .i64 ((ln (List.map MLot.av a0.Lots)))), (91, .i .i64 v52)], [some (.box [.sl 2 (List.map MAccount.av a0.Accounts), .sl 2 (List.map MInstr.av a0.Instrs), .sl 3 (List.map MBal.av a0.Bals), .sl 5 (List.map MLot.av a0.Lots), .sl 8 (List.map MTrade.av a0.Trades), .i .i64 a0.Lot]), some (.arr 1 (List.map iv v51))]⟩) h (fun _ h => by cases h) ?_ ?_
  · exact Exists.intro [.id 0, .id 98] (And.intro rfl (And.intro (And.intro (And.intro rfl (And.intro rfl (And.intro rfl (And.intro rfl (And.intro rfl (And.intro rfl trivial)))))) (And.intro rfl trivial)) (And.intro trivial (And.intro trivial (And.intro rfl (And.intro rfl (And.intro rfl trivial)))))))
  intro n v h
  obtain ⟨v51, v52⟩ := v
  rw [i_BooksPack_L4.eq_2] at h
  refine PS.ite h (fun h53 h => ?_) (fun h53 h => ?_)
  · refine OB.grd h (fun h54 h => ?_)
    refine EX.get h (fun x55 h56 h => ?_)
    refine RN.to (List.map iv [x55.Account, x55.Instr, x55.No, x55.Qty, x55.Cost]) rfl ?_
    refine OB.app (enc := iv) (l := [x55.Account, x55.Instr, x55.No, x55.Qty, x55.Cost]) rfl (fun _ => rfl) h (fun h57 h => ?_)
    refine RN.to (List.map iv (v51 ++ [x55.Account, x55.Instr, x55.No, x55.Qty, x55.Cost])) List.map_append.symm ?_
    refine NX.next h ?_
    exact Exists.intro [.id 0, .id 274] (And.intro rfl (And.intro (And.intro (And.intro rfl (And.intro rfl (And.intro rfl (And.intro rfl (And.intro rfl (And.intro rfl trivial)))))) (And.intro rfl trivial)) (And.intro trivial (And.intro trivial (And.intro rfl (And.intro rfl (And.intro rfl trivial)))))))
  refine HY.mk (fun _ => ?_)
  refine RN.to (List.map iv [(ln (List.map MTrade.av a0.Trades))]) rfl ?_
  refine OB.app (enc := iv) (l := [(ln (List.map MTrade.av a0.Trades))]) rfl (fun _ => rfl) h (fun h59 h => ?_)
  refine RN.to (List.map iv (v51 ++ [(ln (List.map MTrade.av a0.Trades))])) List.map_append.symm ?_
  refine HY.mk (fun _ => ?_)
  refine LP.fuel (g := i_BooksPack_L5 a0 _) (fun (v65, v66) => ⟨[(1, .ptr 0 0), (4, .own 1), (116, .sl 8 (List.map MTrade.av a0.Trades)), (117, .i .i64 ((ln (List.map MTrade.av a0.Trades)))), (118, .i .i64 v66)], [some (.box [.sl 2 (List.map MAccount.av a0.Accounts), .sl 2 (List.map MInstr.av a0.Instrs), .sl 3 (List.map MBal.av a0.Bals), .sl 5 (List.map MLot.av a0.Lots), .sl 8 (List.map MTrade.av a0.Trades), .i .i64 a0.Lot]), some (.arr 1 (List.map iv v65))]⟩) h (fun _ h => by cases h) ?_ ?_
  · exact Exists.intro [.id 0, .id 98] (And.intro rfl (And.intro (And.intro (And.intro rfl (And.intro rfl (And.intro rfl (And.intro rfl (And.intro rfl (And.intro rfl trivial)))))) (And.intro rfl trivial)) (And.intro trivial (And.intro trivial (And.intro rfl (And.intro rfl (And.intro rfl trivial)))))))
  intro n v h
  obtain ⟨v65, v66⟩ := v
  rw [i_BooksPack_L5.eq_2] at h
  refine PS.ite h (fun h67 h => ?_) (fun h67 h => ?_)
  · refine OB.grd h (fun h68 h => ?_)
    refine EX.get h (fun x69 h70 h => ?_)
    refine RN.to (List.map iv [x69.No, x69.Buyer, x69.Seller, x69.Paper, x69.Qty, x69.Cash, x69.Price, x69.State]) rfl ?_
    refine OB.app (enc := iv) (l := [x69.No, x69.Buyer, x69.Seller, x69.Paper, x69.Qty, x69.Cash, x69.Price, x69.State]) rfl (fun _ => rfl) h (fun h71 h => ?_)
    refine RN.to (List.map iv (v65 ++ [x69.No, x69.Buyer, x69.Seller, x69.Paper, x69.Qty, x69.Cash, x69.Price, x69.State])) List.map_append.symm ?_
    refine NX.next h ?_
    exact Exists.intro [.id 0, .id 370] (And.intro rfl (And.intro (And.intro (And.intro rfl (And.intro rfl (And.intro rfl (And.intro rfl (And.intro rfl (And.intro rfl trivial)))))) (And.intro rfl trivial)) (And.intro trivial (And.intro trivial (And.intro rfl (And.intro rfl (And.intro rfl trivial)))))))
  refine RN.to (List.map iv [a0.Lot]) rfl ?_
  refine OB.app (enc := iv) (l := [a0.Lot]) rfl (fun _ => rfl) h (fun h73 h => ?_)
  refine RN.to (List.map iv (v65 ++ [a0.Lot])) List.map_append.symm ?_
  refine CK.call false [] h (fun _ h => con_i_PutNums h) (And.intro rfl trivial) trivial rfl (fun _ => rfl) (fun _ => Or.inr (Flat.mk rfl (And.intro (FlatO.map fun _ => rfl) trivial))) (fun y74 h75 h => ?_)
  refine RN.mk ?_
  exact lf2 h fun e0 e1 => Exists.intro [.id 98] (And.intro rfl (And.intro (And.intro (mpe e0) trivial) (And.intro trivial (And.intro (be e1) trivial))))
theorem con_g_Grow_byte {a1 : Int} {r0 : (List UInt8)} (h : g_Grow_byte a1 = some r0) : Con Tryz.prog 186 [.nil, .i .i64 a1] [] (.own 0) [some (.arr 1 (List.map u8 r0))] := by
  refine con_of_awpF hT mixed (fn := Tryz.f186) Tryz.func186 rfl rfl ?_
  unfold g_Grow_byte at h
  refine PS.ite h (fun h1 h => ?_) (fun h1 h => ?_)
  · cases h
  refine HY.mk (fun _ => ?_)
  refine PS.ite h (fun h2 h => ?_) (fun h2 h => ?_)
  · refine OB.grd h (fun h3 h => ?_)
    refine OB.grd h (fun h4 h => ?_)
    refine RN.to (List.map u8 (List.replicate (Int.toNat (w64 (a1 - (w64 ((0 : Int) - (ln ([] : List AV))))))) (0 : UInt8))) (rep_map rfl) ?_
    refine HY.mk (fun _ => ?_)
    refine OB.grd h (fun h5 h => ?_)
    exact lf1 h fun e0 => Exists.intro [.pre 288 ((Int.toNat (ln ([] : List AV))) - 0)] (And.intro rfl (And.intro (And.intro (And.intro (by simp only [List.length_map, List.length_append, List.length_take, List.length_drop, List.length_replicate, List.length_set, ln] at *; omega) (mpt e0)) trivial) rfl))
  exact lf1 h fun e0 => Exists.intro [.nl] (And.intro rfl (And.intro (And.intro (mpn e0) trivial) trivial))
theorem con_g_Concat_byte {a0 : (List (List UInt8))} {r0 : (List UInt8)} (h : g_Concat_byte a0 = some r0) : Con Tryz.prog 144 [.sl 1 (List.map (sv 1 u8) a0)] [] (.own 0) [some (.arr 1 (List.map u8 r0))] := by
  refine con_of_awpF hT mixed (fn := Tryz.f144) Tryz.func144 rfl rfl ?_
  unfold g_Concat_byte at h
  refine HY.mk (fun _ => ?_)
  refine LP.fuel (g := g_Concat_byte_L1 a0 _) (fun (v6, v7) => ⟨[(0, .sl 1 (List.map (sv 1 u8) a0)), (3, .i .i64 v6), (9, .sl 1 (List.map (sv 1 u8) a0)), (10, .i .i64 ((ln (List.map (sv 1 u8) a0)))), (11, .i .i64 v7)], []⟩) h (fun _ h => by cases h) ?_ ?_
  · exact Exists.intro [] (And.intro rfl (And.intro trivial (And.intro rfl (And.intro rfl (And.intro rfl (And.intro rfl (And.intro rfl trivial)))))))
  intro n v h
  obtain ⟨v6, v7⟩ := v
  rw [g_Concat_byte_L1.eq_2] at h
  refine PS.ite h (fun h8 h => ?_) (fun h8 h => ?_)
  · refine OB.grd h (fun h9 h => ?_)
    refine EX.get h (fun x10 h11 h => ?_)
    refine HY.mk (fun _ => ?_)
    refine PS.ite h (fun h12 h => ?_) (fun h12 h => ?_)
    · cases h
    refine NX.next h ?_
    exact Exists.intro [] (And.intro rfl (And.intro trivial (And.intro rfl (And.intro rfl (And.intro rfl (And.intro rfl (And.intro rfl trivial)))))))
  refine CK.call false [] h (fun _ h => con_g_Grow_byte h) (And.intro rfl (And.intro rfl trivial)) trivial rfl (fun _ => rfl) (fun _ => Or.inl rfl) (fun y14 h15 h => ?_)
  refine RN.mk ?_
  refine HY.mk (fun _ => ?_)
  refine LP.fuel (g := g_Concat_byte_L2 a0 _) (fun (v21, v22) => ⟨[(6, .own 0), (25, .sl 1 (List.map (sv 1 u8) a0)), (26, .i .i64 ((ln (List.map (sv 1 u8) a0)))), (27, .i .i64 v22)], [some (.arr 1 (List.map u8 v21))]⟩) h (fun _ h => by cases h) ?_ ?_
  · exact Exists.intro [.id 32] (And.intro rfl (And.intro (And.intro rfl trivial) (And.intro trivial (And.intro rfl (And.intro rfl (And.intro rfl trivial))))))
  intro n v h
  obtain ⟨v21, v22⟩ := v
  rw [g_Concat_byte_L2.eq_2] at h
  refine PS.ite h (fun h23 h => ?_) (fun h23 h => ?_)
  · refine OB.grd h (fun h24 h => ?_)
    refine EX.get h (fun x25 h26 h => ?_)
    refine OB.app (enc := u8) (l := x25) rfl (fun _ => rfl) h (fun h27 h => ?_)
    refine RN.to (List.map u8 (v21 ++ x25)) List.map_append.symm ?_
    refine NX.next h ?_
    exact Exists.intro [.id 97] (And.intro rfl (And.intro (And.intro rfl trivial) (And.intro trivial (And.intro rfl (And.intro rfl (And.intro rfl trivial))))))
  exact lf1 h fun e0 => Exists.intro [.id 0] (And.intro rfl (And.intro (And.intro (mpe e0) trivial) trivial))
theorem con_i_Seal {a0 : (List UInt8)} {r0 : (List UInt8)} {r1 : Bool} (h : i_Seal a0 = some (r0, r1)) : Con Tryz.prog 76 [.sl 1 (List.map u8 a0)] [] (.tup [.own 0, .p (r1 = true)]) [some (.arr 1 (List.map u8 r0))] := by
  refine con_of_awpF hT mixed (fn := Tryz.f76) Tryz.func76 rfl rfl ?_
  unfold i_Seal at h
  refine HY.mk (fun _ => ?_)
  refine PS.ite h (fun h1 h => ?_) (fun h1 h => ?_)
  · exact lf2 h fun e0 e1 => Exists.intro [.nl] (And.intro rfl (And.intro (And.intro (mpn e0) trivial) (And.intro trivial (And.intro (be e1) trivial))))
  refine HY.mk (fun _ => ?_)
  refine CK.call true [] h (fun _ h => con_i_PutNum h) (And.intro rfl trivial) trivial rfl (fun _ => rfl) (fun _ => Or.inl rfl) (fun y2 h3 h => ?_)
  refine CK.call true [] h (fun _ h => con_i_checkBytes h) (And.intro rfl trivial) trivial rfl (fun _ => rfl) (fun _ => Or.inl rfl) (fun y4 h5 h => ?_)
  refine RN.to (List.map (sv 1 u8) [y2, a0, y4]) rfl ?_
  refine CK.call false [] h (fun _ h => con_g_Concat_byte h) (And.intro rfl trivial) trivial rfl (fun _ => rfl) (fun _ => Or.inr (Flat.mk rfl (And.intro (FlatO.map fun _ => rfl) trivial))) (fun y6 h7 h => ?_)
  refine RN.mk ?_
  exact lf2 h fun e0 e1 => Exists.intro [.id 192] (And.intro rfl (And.intro (And.intro (mpe e0) trivial) (And.intro trivial (And.intro (be e1) trivial))))
theorem con_i_SavePack {a0 : MSave} {r0 : (List UInt8)} {r1 : Bool} (h : i_SavePack a0 = some (r0, r1)) : Con Tryz.prog 34 [.agg [.i .i64 a0.From, .sl 2 (List.map MAccount.av a0.Books.Accounts), .sl 2 (List.map MInstr.av a0.Books.Instrs), .sl 3 (List.map MBal.av a0.Books.Bals), .sl 5 (List.map MLot.av a0.Books.Lots), .sl 8 (List.map MTrade.av a0.Books.Trades), .i .i64 a0.Books.Lot]] [] (.tup [.s r0, .p (r1 = true)]) [] := by
  refine con_of_awpF hT mixed (fn := Tryz.f34) Tryz.func34 rfl rfl ?_
  unfold i_SavePack at h
  refine CK.call false [] h (fun _ h => con_i_BooksPack h) (And.intro (And.intro rfl (And.intro rfl (And.intro rfl (And.intro rfl (And.intro rfl (And.intro rfl trivial)))))) trivial) trivial rfl (fun _ => rfl) (fun _ => Or.inl rfl) (fun y1 h2 h => ?_)
  refine RN.mk ?_
  refine PS.ite h (fun h3 h => ?_) (fun h3 h => ?_)
  · exact lf2 h fun e0 e1 => Exists.intro [] (And.intro rfl (And.intro trivial (And.intro e0 (And.intro (be e1) trivial))))
  refine CK.call false [] h (fun _ h => con_i_isSeg h) (And.intro rfl trivial) trivial rfl (fun _ => rfl) (fun _ => Or.inl rfl) (fun y4 h5 h => ?_)
  refine PS.ite h (fun h6 h => ?_) (fun h6 h => ?_)
  · exact lf2 h fun e0 e1 => Exists.intro [] (And.intro rfl (And.intro trivial (And.intro e0 (And.intro (be e1) trivial))))
  refine CK.call false [] h (fun _ h => con_i_PutNum h) (And.intro rfl trivial) trivial rfl (fun _ => rfl) (fun _ => Or.inl rfl) (fun y7 h8 h => ?_)
  refine RN.mk ?_
  refine OB.app (enc := u8) (l := y1.1) rfl (fun _ => rfl) h (fun h9 h => ?_)
  refine RN.to (List.map u8 (y7 ++ y1.1)) List.map_append.symm ?_
  refine CK.call false [] h (fun _ h => con_i_Seal h) (And.intro rfl trivial) trivial rfl (fun _ => rfl) (fun _ => Or.inr (Flat.mk rfl (And.intro (FlatO.map fun _ => rfl) trivial))) (fun y10 h11 h => ?_)
  refine RN.mk ?_
  refine Exists.intro y10.1 (And.intro rfl (HY.mk fun _ => ?_))
  exact lf2 h fun e0 e1 => Exists.intro [] (And.intro rfl (And.intro trivial (And.intro e0 (And.intro (be e1) trivial))))
theorem con_i_SaveLoad {a0 : MDisk} {r0 : Int} {r1 : (List MAccount)} {r2 : (List MInstr)} {r3 : (List MBal)} {r4 : (List MLot)} {r5 : (List MTrade)} {r6 : Int} {r7 : Bool} (h : i_SaveLoad a0 = some (r0, r1, r2, r3, r4, r5, r6, r7)) : Con Tryz.prog 9 [.agg [.i .i64 a0.Room, .sl 3 (List.map MFile.av a0.Files)]] [] (.tup [.agg [.i .i64 r0, .own 0, .own 1, .own 2, .own 3, .own 4, .i .i64 r6], .p (r7 = true)]) [some (.arr 2 (List.map MAccount.av r1)), some (.arr 2 (List.map MInstr.av r2)), some (.arr 3 (List.map MBal.av r3)), some (.arr 5 (List.map MLot.av r4)), some (.arr 8 (List.map MTrade.av r5))] := by
  refine con_of_awpF hT mixed (fn := Tryz.f9) Tryz.func9 rfl rfl ?_
  unfold i_SaveLoad at h
  refine CK.call false [] h (fun _ h => con_i_DiskRead h) (And.intro (And.intro rfl (And.intro rfl trivial)) (And.intro rfl trivial)) trivial rfl (fun _ => rfl) (fun _ => Or.inl rfl) (fun y1 h2 h => ?_)
  refine PS.ite h (fun h3 h => ?_) (fun h3 h => ?_)
  · exact lf8 h fun e0 e1 e2 e3 e4 e5 e6 e7 => Exists.intro [.nl, .nl, .nl, .nl, .nl] (And.intro rfl (And.intro (And.intro (mpn e1) (And.intro (mpn e2) (And.intro (mpn e3) (And.intro (mpn e4) (And.intro (mpn e5) trivial))))) (And.intro (And.intro e0 (And.intro trivial (And.intro trivial (And.intro trivial (And.intro trivial (And.intro trivial (And.intro e6 trivial))))))) (And.intro (be e7) trivial))))
  refine CK.call false [] h (fun _ h => con_i_Unseal h) (And.intro rfl (And.intro rfl trivial)) trivial rfl (fun _ => rfl) (fun _ => Or.inl rfl) (fun y4 h5 h => ?_)
  refine RN.mk ?_
  refine PS.ite h (fun h6 h => ?_) (fun h6 h => ?_)
  · exact lf8 h fun e0 e1 e2 e3 e4 e5 e6 e7 => Exists.intro [.nl, .nl, .nl, .nl, .nl] (And.intro rfl (And.intro (And.intro (mpn e1) (And.intro (mpn e2) (And.intro (mpn e3) (And.intro (mpn e4) (And.intro (mpn e5) trivial))))) (And.intro (And.intro e0 (And.intro trivial (And.intro trivial (And.intro trivial (And.intro trivial (And.intro trivial (And.intro e6 trivial))))))) (And.intro (be e7) trivial))))
  refine HY.mk (fun _ => ?_)
  refine PS.ite h (fun h7 h => ?_) (fun h7 h => ?_)
  · exact lf8 h fun e0 e1 e2 e3 e4 e5 e6 e7 => Exists.intro [.nl, .nl, .nl, .nl, .nl] (And.intro rfl (And.intro (And.intro (mpn e1) (And.intro (mpn e2) (And.intro (mpn e3) (And.intro (mpn e4) (And.intro (mpn e5) trivial))))) (And.intro (And.intro e0 (And.intro trivial (And.intro trivial (And.intro trivial (And.intro trivial (And.intro trivial (And.intro e6 trivial))))))) (And.intro (be e7) trivial))))
  refine CK.call false [] h (fun _ h => con_i_GetNum h) (And.intro rfl (And.intro rfl trivial)) trivial rfl (fun _ => rfl) (fun _ => Or.inr (Flat.mk rfl trivial)) (fun y8 h9 h => ?_)
  refine PS.ite h (fun h10 h => ?_) (fun h10 h => ?_)
  · exact lf8 h fun e0 e1 e2 e3 e4 e5 e6 e7 => Exists.intro [.nl, .nl, .nl, .nl, .nl] (And.intro rfl (And.intro (And.intro (mpn e1) (And.intro (mpn e2) (And.intro (mpn e3) (And.intro (mpn e4) (And.intro (mpn e5) trivial))))) (And.intro (And.intro e0 (And.intro trivial (And.intro trivial (And.intro trivial (And.intro trivial (And.intro trivial (And.intro e6 trivial))))))) (And.intro (be e7) trivial))))
  refine CK.call false [] h (fun _ h => con_i_isSeg h) (And.intro rfl trivial) trivial rfl (fun _ => rfl) (fun _ => Or.inl rfl) (fun y11 h12 h => ?_)
  refine PS.ite h (fun h13 h => ?_) (fun h13 h => ?_)
  · exact lf8 h fun e0 e1 e2 e3 e4 e5 e6 e7 => Exists.intro [.nl, .nl, .nl, .nl, .nl] (And.intro rfl (And.intro (And.intro (mpn e1) (And.intro (mpn e2) (And.intro (mpn e3) (And.intro (mpn e4) (And.intro (mpn e5) trivial))))) (And.intro (And.intro e0 (And.intro trivial (And.intro trivial (And.intro trivial (And.intro trivial (And.intro trivial (And.intro e6 trivial))))))) (And.intro (be e7) trivial))))
  refine OB.grd h (fun h14 h => ?_)
  refine CK.call false [] h (fun _ h => con_i_BooksRead h) (And.intro dtm trivial) trivial rfl (fun _ => rfl) (fun _ => Or.inr (Flat.mk rfl (And.intro (FlatO.map fun _ => rfl) (And.intro (FlatO.map fun _ => rfl) (And.intro (FlatO.map fun _ => rfl) (And.intro (FlatO.map fun _ => rfl) (And.intro (FlatO.map fun _ => rfl) trivial))))))) (fun y15 h16 h => ?_)
  refine RN.mk ?_
  refine RN.mk ?_
  refine RN.mk ?_
  refine RN.mk ?_
  refine RN.mk ?_
  refine CK.call false [] h (fun _ h => con_i_SavePack h) (And.intro (And.intro rfl (And.intro rfl (And.intro rfl (And.intro rfl (And.intro rfl (And.intro rfl (And.intro rfl trivial))))))) trivial) trivial rfl (fun _ => rfl) (fun _ => Or.inr (Flat.mk rfl trivial)) (fun y17 h18 h => ?_)
  refine PS.ite h (fun h19 h => ?_) (fun h19 h => ?_)
  · exact lf8 h fun e0 e1 e2 e3 e4 e5 e6 e7 => Exists.intro [.nl, .nl, .nl, .nl, .nl] (And.intro rfl (And.intro (And.intro (mpn e1) (And.intro (mpn e2) (And.intro (mpn e3) (And.intro (mpn e4) (And.intro (mpn e5) trivial))))) (And.intro (And.intro e0 (And.intro trivial (And.intro trivial (And.intro trivial (And.intro trivial (And.intro trivial (And.intro e6 trivial))))))) (And.intro (be e7) trivial))))
  refine PS.ite h (fun h20 h => ?_) (fun h20 h => ?_)
  · exact lf8 h fun e0 e1 e2 e3 e4 e5 e6 e7 => Exists.intro [.nl, .nl, .nl, .nl, .nl] (And.intro rfl (And.intro (And.intro (mpn e1) (And.intro (mpn e2) (And.intro (mpn e3) (And.intro (mpn e4) (And.intro (mpn e5) trivial))))) (And.intro (And.intro e0 (And.intro trivial (And.intro trivial (And.intro trivial (And.intro trivial (And.intro trivial (And.intro e6 trivial))))))) (And.intro (be e7) trivial))))
  exact lf8 h fun e0 e1 e2 e3 e4 e5 e6 e7 => Exists.intro [.id 784, .id 785, .id 786, .id 787, .id 788] (And.intro rfl (And.intro (And.intro (mpe e1) (And.intro (mpe e2) (And.intro (mpe e3) (And.intro (mpe e4) (And.intro (mpe e5) trivial))))) (And.intro (And.intro e0 (And.intro trivial (And.intro trivial (And.intro trivial (And.intro trivial (And.intro trivial (And.intro e6 trivial))))))) (And.intro (be e7) trivial))))
theorem con_l_eqAccount {a0 : MAccount} {a1 : MAccount} {r0 : Bool} (h : l_eqAccount a0 a1 = some r0) : Con Tryz.prog 145 [.agg [.i .i64 a0.No, .i .i64 a0.Kind], .agg [.i .i64 a1.No, .i .i64 a1.Kind]] [] (.p (r0 = true)) [] := by
  refine con_of_awpF hT mixed (fn := Tryz.f145) Tryz.func145 rfl rfl ?_
  unfold l_eqAccount at h
  refine PS.ite h (fun h1 h => ?_) (fun h1 h => ?_)
  · exact lf1 h fun e0 => Exists.intro [] (And.intro rfl (And.intro trivial (be e0)))
  refine PS.ite h (fun h2 h => ?_) (fun h2 h => ?_)
  · exact lf1 h fun e0 => Exists.intro [] (And.intro rfl (And.intro trivial (be e0)))
  exact lf1 h fun e0 => Exists.intro [] (And.intro rfl (And.intro trivial (be e0)))
theorem con_l_eqAccountS {a0 : (List MAccount)} {a1 : (List MAccount)} {r0 : Bool} (h : l_eqAccountS a0 a1 = some r0) : Con Tryz.prog 78 [.sl 2 (List.map MAccount.av a0), .sl 2 (List.map MAccount.av a1)] [] (.p (r0 = true)) [] := by
  refine con_of_awpF hT mixed (fn := Tryz.f78) Tryz.func78 rfl rfl ?_
  unfold l_eqAccountS at h
  refine HY.mk (fun _ => ?_)
  refine HY.mk (fun _ => ?_)
  refine PS.ite h (fun h1 h => ?_) (fun h1 h => ?_)
  · exact lf1 h fun e0 => Exists.intro [] (And.intro rfl (And.intro trivial (be e0)))
  refine LP.fuel (g := l_eqAccountS_L1 a0 a1 _) (fun v11 => ⟨[(0, .sl 2 (List.map MAccount.av a0)), (1, .sl 2 (List.map MAccount.av a1)), (5, .i .i64 v11)], []⟩) h (fun _ h => by cases h) ?_ ?_
  · exact Exists.intro [] (And.intro rfl (And.intro trivial (And.intro rfl (And.intro rfl (And.intro rfl trivial)))))
  intro n v11 h
  rw [l_eqAccountS_L1.eq_2] at h
  refine HY.mk (fun _ => ?_)
  refine PS.ite h (fun h12 h => ?_) (fun h12 h => ?_)
  · refine OB.grd h (fun h13 h => ?_)
    refine EX.get h (fun x14 h15 h => ?_)
    refine OB.mk h13 ?_
    refine EX.get h (fun x16 h17 h => ?_)
    refine CK.call false [] h (fun _ h => con_l_eqAccount h) (And.intro (And.intro rfl (And.intro rfl trivial)) (And.intro (And.intro rfl (And.intro rfl trivial)) trivial)) trivial rfl (fun _ => rfl) (fun _ => Or.inl rfl) (fun y18 h19 h => ?_)
    refine OB.mk (by kernel_rfl) ?_
    refine PS.ite h (fun h20 h => ?_) (fun h20 h => ?_)
    · exact lf1 h fun e0 => Exists.intro [] (And.intro rfl (And.intro trivial (be e0)))
    refine NX.next h ?_
    exact Exists.intro [] (And.intro rfl (And.intro trivial (And.intro rfl (And.intro rfl (And.intro rfl trivial)))))
  exact lf1 h fun e0 => Exists.intro [] (And.intro rfl (And.intro trivial (be e0)))
theorem con_l_eqInstr {a0 : MInstr} {a1 : MInstr} {r0 : Bool} (h : l_eqInstr a0 a1 = some r0) : Con Tryz.prog 146 [.agg [.i .i64 a0.No, .i .i64 a0.Kind], .agg [.i .i64 a1.No, .i .i64 a1.Kind]] [] (.p (r0 = true)) [] := by
  refine con_of_awpF hT mixed (fn := Tryz.f146) Tryz.func146 rfl rfl ?_
  unfold l_eqInstr at h
  refine PS.ite h (fun h1 h => ?_) (fun h1 h => ?_)
  · exact lf1 h fun e0 => Exists.intro [] (And.intro rfl (And.intro trivial (be e0)))
  refine PS.ite h (fun h2 h => ?_) (fun h2 h => ?_)
  · exact lf1 h fun e0 => Exists.intro [] (And.intro rfl (And.intro trivial (be e0)))
  exact lf1 h fun e0 => Exists.intro [] (And.intro rfl (And.intro trivial (be e0)))
theorem con_l_eqInstrS {a0 : (List MInstr)} {a1 : (List MInstr)} {r0 : Bool} (h : l_eqInstrS a0 a1 = some r0) : Con Tryz.prog 79 [.sl 2 (List.map MInstr.av a0), .sl 2 (List.map MInstr.av a1)] [] (.p (r0 = true)) [] := by
  refine con_of_awpF hT mixed (fn := Tryz.f79) Tryz.func79 rfl rfl ?_
  unfold l_eqInstrS at h
  refine HY.mk (fun _ => ?_)
  refine HY.mk (fun _ => ?_)
  refine PS.ite h (fun h1 h => ?_) (fun h1 h => ?_)
  · exact lf1 h fun e0 => Exists.intro [] (And.intro rfl (And.intro trivial (be e0)))
  refine LP.fuel (g := l_eqInstrS_L1 a0 a1 _) (fun v11 => ⟨[(0, .sl 2 (List.map MInstr.av a0)), (1, .sl 2 (List.map MInstr.av a1)), (5, .i .i64 v11)], []⟩) h (fun _ h => by cases h) ?_ ?_
  · exact Exists.intro [] (And.intro rfl (And.intro trivial (And.intro rfl (And.intro rfl (And.intro rfl trivial)))))
  intro n v11 h
  rw [l_eqInstrS_L1.eq_2] at h
  refine HY.mk (fun _ => ?_)
  refine PS.ite h (fun h12 h => ?_) (fun h12 h => ?_)
  · refine OB.grd h (fun h13 h => ?_)
    refine EX.get h (fun x14 h15 h => ?_)
    refine OB.mk h13 ?_
    refine EX.get h (fun x16 h17 h => ?_)
    refine CK.call false [] h (fun _ h => con_l_eqInstr h) (And.intro (And.intro rfl (And.intro rfl trivial)) (And.intro (And.intro rfl (And.intro rfl trivial)) trivial)) trivial rfl (fun _ => rfl) (fun _ => Or.inl rfl) (fun y18 h19 h => ?_)
    refine OB.mk (by kernel_rfl) ?_
    refine PS.ite h (fun h20 h => ?_) (fun h20 h => ?_)
    · exact lf1 h fun e0 => Exists.intro [] (And.intro rfl (And.intro trivial (be e0)))
    refine NX.next h ?_
    exact Exists.intro [] (And.intro rfl (And.intro trivial (And.intro rfl (And.intro rfl (And.intro rfl trivial)))))
  exact lf1 h fun e0 => Exists.intro [] (And.intro rfl (And.intro trivial (be e0)))
theorem con_l_eqBal {a0 : MBal} {a1 : MBal} {r0 : Bool} (h : l_eqBal a0 a1 = some r0) : Con Tryz.prog 147 [.agg [.i .i64 a0.Account, .i .i64 a0.Instr, .i .i64 a0.Amount], .agg [.i .i64 a1.Account, .i .i64 a1.Instr, .i .i64 a1.Amount]] [] (.p (r0 = true)) [] := by
  refine con_of_awpF hT mixed (fn := Tryz.f147) Tryz.func147 rfl rfl ?_
  unfold l_eqBal at h
  refine PS.ite h (fun h1 h => ?_) (fun h1 h => ?_)
  · exact lf1 h fun e0 => Exists.intro [] (And.intro rfl (And.intro trivial (be e0)))
  refine PS.ite h (fun h2 h => ?_) (fun h2 h => ?_)
  · exact lf1 h fun e0 => Exists.intro [] (And.intro rfl (And.intro trivial (be e0)))
  refine PS.ite h (fun h3 h => ?_) (fun h3 h => ?_)
  · exact lf1 h fun e0 => Exists.intro [] (And.intro rfl (And.intro trivial (be e0)))
  exact lf1 h fun e0 => Exists.intro [] (And.intro rfl (And.intro trivial (be e0)))
theorem con_l_eqBalS {a0 : (List MBal)} {a1 : (List MBal)} {r0 : Bool} (h : l_eqBalS a0 a1 = some r0) : Con Tryz.prog 80 [.sl 3 (List.map MBal.av a0), .sl 3 (List.map MBal.av a1)] [] (.p (r0 = true)) [] := by
  refine con_of_awpF hT mixed (fn := Tryz.f80) Tryz.func80 rfl rfl ?_
  unfold l_eqBalS at h
  refine HY.mk (fun _ => ?_)
  refine HY.mk (fun _ => ?_)
  refine PS.ite h (fun h1 h => ?_) (fun h1 h => ?_)
  · exact lf1 h fun e0 => Exists.intro [] (And.intro rfl (And.intro trivial (be e0)))
  refine LP.fuel (g := l_eqBalS_L1 a0 a1 _) (fun v11 => ⟨[(0, .sl 3 (List.map MBal.av a0)), (1, .sl 3 (List.map MBal.av a1)), (5, .i .i64 v11)], []⟩) h (fun _ h => by cases h) ?_ ?_
  · exact Exists.intro [] (And.intro rfl (And.intro trivial (And.intro rfl (And.intro rfl (And.intro rfl trivial)))))
  intro n v11 h
  rw [l_eqBalS_L1.eq_2] at h
  refine HY.mk (fun _ => ?_)
  refine PS.ite h (fun h12 h => ?_) (fun h12 h => ?_)
  · refine OB.grd h (fun h13 h => ?_)
    refine EX.get h (fun x14 h15 h => ?_)
    refine OB.mk h13 ?_
    refine EX.get h (fun x16 h17 h => ?_)
    refine CK.call false [] h (fun _ h => con_l_eqBal h) (And.intro (And.intro rfl (And.intro rfl (And.intro rfl trivial))) (And.intro (And.intro rfl (And.intro rfl (And.intro rfl trivial))) trivial)) trivial rfl (fun _ => rfl) (fun _ => Or.inl rfl) (fun y18 h19 h => ?_)
    refine OB.mk (by kernel_rfl) ?_
    refine PS.ite h (fun h20 h => ?_) (fun h20 h => ?_)
    · exact lf1 h fun e0 => Exists.intro [] (And.intro rfl (And.intro trivial (be e0)))
    refine NX.next h ?_
    exact Exists.intro [] (And.intro rfl (And.intro trivial (And.intro rfl (And.intro rfl (And.intro rfl trivial)))))
  exact lf1 h fun e0 => Exists.intro [] (And.intro rfl (And.intro trivial (be e0)))
theorem con_l_eqLot {a0 : MLot} {a1 : MLot} {r0 : Bool} (h : l_eqLot a0 a1 = some r0) : Con Tryz.prog 148 [.agg [.i .i64 a0.Account, .i .i64 a0.Instr, .i .i64 a0.No, .i .i64 a0.Qty, .i .i64 a0.Cost], .agg [.i .i64 a1.Account, .i .i64 a1.Instr, .i .i64 a1.No, .i .i64 a1.Qty, .i .i64 a1.Cost]] [] (.p (r0 = true)) [] := by
  refine con_of_awpF hT mixed (fn := Tryz.f148) Tryz.func148 rfl rfl ?_
  unfold l_eqLot at h
  refine PS.ite h (fun h1 h => ?_) (fun h1 h => ?_)
  · exact lf1 h fun e0 => Exists.intro [] (And.intro rfl (And.intro trivial (be e0)))
  refine PS.ite h (fun h2 h => ?_) (fun h2 h => ?_)
  · exact lf1 h fun e0 => Exists.intro [] (And.intro rfl (And.intro trivial (be e0)))
  refine PS.ite h (fun h3 h => ?_) (fun h3 h => ?_)
  · exact lf1 h fun e0 => Exists.intro [] (And.intro rfl (And.intro trivial (be e0)))
  refine PS.ite h (fun h4 h => ?_) (fun h4 h => ?_)
  · exact lf1 h fun e0 => Exists.intro [] (And.intro rfl (And.intro trivial (be e0)))
  refine PS.ite h (fun h5 h => ?_) (fun h5 h => ?_)
  · exact lf1 h fun e0 => Exists.intro [] (And.intro rfl (And.intro trivial (be e0)))
  exact lf1 h fun e0 => Exists.intro [] (And.intro rfl (And.intro trivial (be e0)))
theorem con_l_eqLotS {a0 : (List MLot)} {a1 : (List MLot)} {r0 : Bool} (h : l_eqLotS a0 a1 = some r0) : Con Tryz.prog 81 [.sl 5 (List.map MLot.av a0), .sl 5 (List.map MLot.av a1)] [] (.p (r0 = true)) [] := by
  refine con_of_awpF hT mixed (fn := Tryz.f81) Tryz.func81 rfl rfl ?_
  unfold l_eqLotS at h
  refine HY.mk (fun _ => ?_)
  refine HY.mk (fun _ => ?_)
  refine PS.ite h (fun h1 h => ?_) (fun h1 h => ?_)
  · exact lf1 h fun e0 => Exists.intro [] (And.intro rfl (And.intro trivial (be e0)))
  refine LP.fuel (g := l_eqLotS_L1 a0 a1 _) (fun v11 => ⟨[(0, .sl 5 (List.map MLot.av a0)), (1, .sl 5 (List.map MLot.av a1)), (5, .i .i64 v11)], []⟩) h (fun _ h => by cases h) ?_ ?_
  · exact Exists.intro [] (And.intro rfl (And.intro trivial (And.intro rfl (And.intro rfl (And.intro rfl trivial)))))
  intro n v11 h
  rw [l_eqLotS_L1.eq_2] at h
  refine HY.mk (fun _ => ?_)
  refine PS.ite h (fun h12 h => ?_) (fun h12 h => ?_)
  · refine OB.grd h (fun h13 h => ?_)
    refine EX.get h (fun x14 h15 h => ?_)
    refine OB.mk h13 ?_
    refine EX.get h (fun x16 h17 h => ?_)
    refine CK.call false [] h (fun _ h => con_l_eqLot h) (And.intro (And.intro rfl (And.intro rfl (And.intro rfl (And.intro rfl (And.intro rfl trivial))))) (And.intro (And.intro rfl (And.intro rfl (And.intro rfl (And.intro rfl (And.intro rfl trivial))))) trivial)) trivial rfl (fun _ => rfl) (fun _ => Or.inl rfl) (fun y18 h19 h => ?_)
    refine OB.mk (by kernel_rfl) ?_
    refine PS.ite h (fun h20 h => ?_) (fun h20 h => ?_)
    · exact lf1 h fun e0 => Exists.intro [] (And.intro rfl (And.intro trivial (be e0)))
    refine NX.next h ?_
    exact Exists.intro [] (And.intro rfl (And.intro trivial (And.intro rfl (And.intro rfl (And.intro rfl trivial)))))
  exact lf1 h fun e0 => Exists.intro [] (And.intro rfl (And.intro trivial (be e0)))
theorem con_l_eqTrade {a0 : MTrade} {a1 : MTrade} {r0 : Bool} (h : l_eqTrade a0 a1 = some r0) : Con Tryz.prog 149 [.agg [.i .i64 a0.No, .i .i64 a0.Buyer, .i .i64 a0.Seller, .i .i64 a0.Paper, .i .i64 a0.Qty, .i .i64 a0.Cash, .i .i64 a0.Price, .i .i64 a0.State], .agg [.i .i64 a1.No, .i .i64 a1.Buyer, .i .i64 a1.Seller, .i .i64 a1.Paper, .i .i64 a1.Qty, .i .i64 a1.Cash, .i .i64 a1.Price, .i .i64 a1.State]] [] (.p (r0 = true)) [] := by
  refine con_of_awpF hT mixed (fn := Tryz.f149) Tryz.func149 rfl rfl ?_
  unfold l_eqTrade at h
  refine PS.ite h (fun h1 h => ?_) (fun h1 h => ?_)
  · exact lf1 h fun e0 => Exists.intro [] (And.intro rfl (And.intro trivial (be e0)))
  refine PS.ite h (fun h2 h => ?_) (fun h2 h => ?_)
  · exact lf1 h fun e0 => Exists.intro [] (And.intro rfl (And.intro trivial (be e0)))
  refine PS.ite h (fun h3 h => ?_) (fun h3 h => ?_)
  · exact lf1 h fun e0 => Exists.intro [] (And.intro rfl (And.intro trivial (be e0)))
  refine PS.ite h (fun h4 h => ?_) (fun h4 h => ?_)
  · exact lf1 h fun e0 => Exists.intro [] (And.intro rfl (And.intro trivial (be e0)))
  refine PS.ite h (fun h5 h => ?_) (fun h5 h => ?_)
  · exact lf1 h fun e0 => Exists.intro [] (And.intro rfl (And.intro trivial (be e0)))
  refine PS.ite h (fun h6 h => ?_) (fun h6 h => ?_)
  · exact lf1 h fun e0 => Exists.intro [] (And.intro rfl (And.intro trivial (be e0)))
  refine PS.ite h (fun h7 h => ?_) (fun h7 h => ?_)
  · exact lf1 h fun e0 => Exists.intro [] (And.intro rfl (And.intro trivial (be e0)))
  refine PS.ite h (fun h8 h => ?_) (fun h8 h => ?_)
  · exact lf1 h fun e0 => Exists.intro [] (And.intro rfl (And.intro trivial (be e0)))
  exact lf1 h fun e0 => Exists.intro [] (And.intro rfl (And.intro trivial (be e0)))
theorem con_l_eqTradeS {a0 : (List MTrade)} {a1 : (List MTrade)} {r0 : Bool} (h : l_eqTradeS a0 a1 = some r0) : Con Tryz.prog 82 [.sl 8 (List.map MTrade.av a0), .sl 8 (List.map MTrade.av a1)] [] (.p (r0 = true)) [] := by
  refine con_of_awpF hT mixed (fn := Tryz.f82) Tryz.func82 rfl rfl ?_
  unfold l_eqTradeS at h
  refine HY.mk (fun _ => ?_)
  refine HY.mk (fun _ => ?_)
  refine PS.ite h (fun h1 h => ?_) (fun h1 h => ?_)
  · exact lf1 h fun e0 => Exists.intro [] (And.intro rfl (And.intro trivial (be e0)))
  refine LP.fuel (g := l_eqTradeS_L1 a0 a1 _) (fun v11 => ⟨[(0, .sl 8 (List.map MTrade.av a0)), (1, .sl 8 (List.map MTrade.av a1)), (5, .i .i64 v11)], []⟩) h (fun _ h => by cases h) ?_ ?_
  · exact Exists.intro [] (And.intro rfl (And.intro trivial (And.intro rfl (And.intro rfl (And.intro rfl trivial)))))
  intro n v11 h
  rw [l_eqTradeS_L1.eq_2] at h
  refine HY.mk (fun _ => ?_)
  refine PS.ite h (fun h12 h => ?_) (fun h12 h => ?_)
  · refine OB.grd h (fun h13 h => ?_)
    refine EX.get h (fun x14 h15 h => ?_)
    refine OB.mk h13 ?_
    refine EX.get h (fun x16 h17 h => ?_)
    refine CK.call false [] h (fun _ h => con_l_eqTrade h) (And.intro (And.intro rfl (And.intro rfl (And.intro rfl (And.intro rfl (And.intro rfl (And.intro rfl (And.intro rfl (And.intro rfl trivial)))))))) (And.intro (And.intro rfl (And.intro rfl (And.intro rfl (And.intro rfl (And.intro rfl (And.intro rfl (And.intro rfl (And.intro rfl trivial)))))))) trivial)) trivial rfl (fun _ => rfl) (fun _ => Or.inl rfl) (fun y18 h19 h => ?_)
    refine OB.mk (by kernel_rfl) ?_
    refine PS.ite h (fun h20 h => ?_) (fun h20 h => ?_)
    · exact lf1 h fun e0 => Exists.intro [] (And.intro rfl (And.intro trivial (be e0)))
    refine NX.next h ?_
    exact Exists.intro [] (And.intro rfl (And.intro trivial (And.intro rfl (And.intro rfl (And.intro rfl trivial)))))
  exact lf1 h fun e0 => Exists.intro [] (And.intro rfl (And.intro trivial (be e0)))
theorem con_l_eqBooks {a0 : MBooks} {a1 : MBooks} {r0 : Bool} (h : l_eqBooks a0 a1 = some r0) : Con Tryz.prog 35 [.agg [.sl 2 (List.map MAccount.av a0.Accounts), .sl 2 (List.map MInstr.av a0.Instrs), .sl 3 (List.map MBal.av a0.Bals), .sl 5 (List.map MLot.av a0.Lots), .sl 8 (List.map MTrade.av a0.Trades), .i .i64 a0.Lot], .agg [.sl 2 (List.map MAccount.av a1.Accounts), .sl 2 (List.map MInstr.av a1.Instrs), .sl 3 (List.map MBal.av a1.Bals), .sl 5 (List.map MLot.av a1.Lots), .sl 8 (List.map MTrade.av a1.Trades), .i .i64 a1.Lot]] [] (.p (r0 = true)) [] := by
  refine con_of_awpF hT mixed (fn := Tryz.f35) Tryz.func35 rfl rfl ?_
  unfold l_eqBooks at h
  refine CK.call false [] h (fun _ h => con_l_eqAccountS h) (And.intro rfl (And.intro rfl trivial)) trivial rfl (fun _ => rfl) (fun _ => Or.inl rfl) (fun y1 h2 h => ?_)
  refine PS.ite h (fun h3 h => ?_) (fun h3 h => ?_)
  · exact lf1 h fun e0 => Exists.intro [] (And.intro rfl (And.intro trivial (be e0)))
  refine CK.call false [] h (fun _ h => con_l_eqInstrS h) (And.intro rfl (And.intro rfl trivial)) trivial rfl (fun _ => rfl) (fun _ => Or.inl rfl) (fun y4 h5 h => ?_)
  refine PS.ite h (fun h6 h => ?_) (fun h6 h => ?_)
  · exact lf1 h fun e0 => Exists.intro [] (And.intro rfl (And.intro trivial (be e0)))
  refine CK.call false [] h (fun _ h => con_l_eqBalS h) (And.intro rfl (And.intro rfl trivial)) trivial rfl (fun _ => rfl) (fun _ => Or.inl rfl) (fun y7 h8 h => ?_)
  refine PS.ite h (fun h9 h => ?_) (fun h9 h => ?_)
  · exact lf1 h fun e0 => Exists.intro [] (And.intro rfl (And.intro trivial (be e0)))
  refine CK.call false [] h (fun _ h => con_l_eqLotS h) (And.intro rfl (And.intro rfl trivial)) trivial rfl (fun _ => rfl) (fun _ => Or.inl rfl) (fun y10 h11 h => ?_)
  refine PS.ite h (fun h12 h => ?_) (fun h12 h => ?_)
  · exact lf1 h fun e0 => Exists.intro [] (And.intro rfl (And.intro trivial (be e0)))
  refine CK.call false [] h (fun _ h => con_l_eqTradeS h) (And.intro rfl (And.intro rfl trivial)) trivial rfl (fun _ => rfl) (fun _ => Or.inl rfl) (fun y13 h14 h => ?_)
  refine PS.ite h (fun h15 h => ?_) (fun h15 h => ?_)
  · exact lf1 h fun e0 => Exists.intro [] (And.intro rfl (And.intro trivial (be e0)))
  refine PS.ite h (fun h16 h => ?_) (fun h16 h => ?_)
  · exact lf1 h fun e0 => Exists.intro [] (And.intro rfl (And.intro trivial (be e0)))
  exact lf1 h fun e0 => Exists.intro [] (And.intro rfl (And.intro trivial (be e0)))
theorem con_l_eqSave {a0 : MSave} {a1 : MSave} {r0 : Bool} (h : l_eqSave a0 a1 = some r0) : Con Tryz.prog 10 [.agg [.i .i64 a0.From, .sl 2 (List.map MAccount.av a0.Books.Accounts), .sl 2 (List.map MInstr.av a0.Books.Instrs), .sl 3 (List.map MBal.av a0.Books.Bals), .sl 5 (List.map MLot.av a0.Books.Lots), .sl 8 (List.map MTrade.av a0.Books.Trades), .i .i64 a0.Books.Lot], .agg [.i .i64 a1.From, .sl 2 (List.map MAccount.av a1.Books.Accounts), .sl 2 (List.map MInstr.av a1.Books.Instrs), .sl 3 (List.map MBal.av a1.Books.Bals), .sl 5 (List.map MLot.av a1.Books.Lots), .sl 8 (List.map MTrade.av a1.Books.Trades), .i .i64 a1.Books.Lot]] [] (.p (r0 = true)) [] := by
  refine con_of_awpF hT mixed (fn := Tryz.f10) Tryz.func10 rfl rfl ?_
  unfold l_eqSave at h
  refine PS.ite h (fun h1 h => ?_) (fun h1 h => ?_)
  · exact lf1 h fun e0 => Exists.intro [] (And.intro rfl (And.intro trivial (be e0)))
  refine CK.call false [] h (fun _ h => con_l_eqBooks h) (And.intro (And.intro rfl (And.intro rfl (And.intro rfl (And.intro rfl (And.intro rfl (And.intro rfl trivial)))))) (And.intro (And.intro rfl (And.intro rfl (And.intro rfl (And.intro rfl (And.intro rfl (And.intro rfl trivial)))))) trivial)) trivial rfl (fun _ => rfl) (fun _ => Or.inl rfl) (fun y2 h3 h => ?_)
  refine PS.ite h (fun h4 h => ?_) (fun h4 h => ?_)
  · exact lf1 h fun e0 => Exists.intro [] (And.intro rfl (And.intro trivial (be e0)))
  exact lf1 h fun e0 => Exists.intro [] (And.intro rfl (And.intro trivial (be e0)))
theorem con_l_eqFile {a0 : MFile} {a1 : MFile} {r0 : Bool} (h : l_eqFile a0 a1 = some r0) : Con Tryz.prog 83 [.agg [.i .i64 a0.Name, .s a0.Safe, .s a0.Late], .agg [.i .i64 a1.Name, .s a1.Safe, .s a1.Late]] [] (.p (r0 = true)) [] := by
  refine con_of_awpF hT mixed (fn := Tryz.f83) Tryz.func83 rfl rfl ?_
  unfold l_eqFile at h
  refine PS.ite h (fun h1 h => ?_) (fun h1 h => ?_)
  · exact lf1 h fun e0 => Exists.intro [] (And.intro rfl (And.intro trivial (be e0)))
  refine PS.ite h (fun h2 h => ?_) (fun h2 h => ?_)
  · exact lf1 h fun e0 => Exists.intro [] (And.intro rfl (And.intro trivial (be e0)))
  refine PS.ite h (fun h3 h => ?_) (fun h3 h => ?_)
  · exact lf1 h fun e0 => Exists.intro [] (And.intro rfl (And.intro trivial (be e0)))
  exact lf1 h fun e0 => Exists.intro [] (And.intro rfl (And.intro trivial (be e0)))
theorem con_l_eqFileS {a0 : (List MFile)} {a1 : (List MFile)} {r0 : Bool} (h : l_eqFileS a0 a1 = some r0) : Con Tryz.prog 36 [.sl 3 (List.map MFile.av a0), .sl 3 (List.map MFile.av a1)] [] (.p (r0 = true)) [] := by
  refine con_of_awpF hT mixed (fn := Tryz.f36) Tryz.func36 rfl rfl ?_
  unfold l_eqFileS at h
  refine HY.mk (fun _ => ?_)
  refine HY.mk (fun _ => ?_)
  refine PS.ite h (fun h1 h => ?_) (fun h1 h => ?_)
  · exact lf1 h fun e0 => Exists.intro [] (And.intro rfl (And.intro trivial (be e0)))
  refine LP.fuel (g := l_eqFileS_L1 a0 a1 _) (fun v11 => ⟨[(0, .sl 3 (List.map MFile.av a0)), (1, .sl 3 (List.map MFile.av a1)), (5, .i .i64 v11)], []⟩) h (fun _ h => by cases h) ?_ ?_
  · exact Exists.intro [] (And.intro rfl (And.intro trivial (And.intro rfl (And.intro rfl (And.intro rfl trivial)))))
  intro n v11 h
  rw [l_eqFileS_L1.eq_2] at h
  refine HY.mk (fun _ => ?_)
  refine PS.ite h (fun h12 h => ?_) (fun h12 h => ?_)
  · refine OB.grd h (fun h13 h => ?_)
    refine EX.get h (fun x14 h15 h => ?_)
    refine OB.mk h13 ?_
    refine EX.get h (fun x16 h17 h => ?_)
    refine CK.call false [] h (fun _ h => con_l_eqFile h) (And.intro (And.intro rfl (And.intro rfl (And.intro rfl trivial))) (And.intro (And.intro rfl (And.intro rfl (And.intro rfl trivial))) trivial)) trivial rfl (fun _ => rfl) (fun _ => Or.inl rfl) (fun y18 h19 h => ?_)
    refine OB.mk (by kernel_rfl) ?_
    refine PS.ite h (fun h20 h => ?_) (fun h20 h => ?_)
    · exact lf1 h fun e0 => Exists.intro [] (And.intro rfl (And.intro trivial (be e0)))
    refine NX.next h ?_
    exact Exists.intro [] (And.intro rfl (And.intro trivial (And.intro rfl (And.intro rfl (And.intro rfl trivial)))))
  exact lf1 h fun e0 => Exists.intro [] (And.intro rfl (And.intro trivial (be e0)))
theorem con_l_eqDisk {a0 : MDisk} {a1 : MDisk} {r0 : Bool} (h : l_eqDisk a0 a1 = some r0) : Con Tryz.prog 11 [.agg [.i .i64 a0.Room, .sl 3 (List.map MFile.av a0.Files)], .agg [.i .i64 a1.Room, .sl 3 (List.map MFile.av a1.Files)]] [] (.p (r0 = true)) [] := by
  refine con_of_awpF hT mixed (fn := Tryz.f11) Tryz.func11 rfl rfl ?_
  unfold l_eqDisk at h
  refine PS.ite h (fun h1 h => ?_) (fun h1 h => ?_)
  · exact lf1 h fun e0 => Exists.intro [] (And.intro rfl (And.intro trivial (be e0)))
  refine CK.call false [] h (fun _ h => con_l_eqFileS h) (And.intro rfl (And.intro rfl trivial)) trivial rfl (fun _ => rfl) (fun _ => Or.inl rfl) (fun y2 h3 h => ?_)
  refine PS.ite h (fun h4 h => ?_) (fun h4 h => ?_)
  · exact lf1 h fun e0 => Exists.intro [] (And.intro rfl (And.intro trivial (be e0)))
  exact lf1 h fun e0 => Exists.intro [] (And.intro rfl (And.intro trivial (be e0)))
theorem con_l_markText {a0 : Int} {r0 : (List UInt8)} (h : l_markText a0 = some r0) : Con Tryz.prog 84 [.i .i64 a0] [] (.s r0) [] := by
  refine con_of_awpF hT mixed (fn := Tryz.f84) Tryz.func84 rfl rfl ?_
  unfold l_markText at h
  refine PS.ite h (fun h1 h => ?_) (fun h1 h => ?_)
  · exact lf1 h fun e0 => Exists.intro [] (And.intro rfl (And.intro trivial e0))
  refine LP.fuel (g := l_markText_L1 _) (fun (v4, v5) => ⟨[(0, .i .i64 v4), (3, .s v5)], []⟩) h (fun _ h => by cases h) ?_ ?_
  · exact Exists.intro [] (And.intro rfl (And.intro trivial (And.intro rfl (And.intro rfl trivial))))
  intro n v h
  obtain ⟨v4, v5⟩ := v
  rw [l_markText_L1.eq_2] at h
  refine PS.ite h (fun h6 h => ?_) (fun h6 h => ?_)
  · refine RN.to (List.map u8 [(byteOf (w64 ((48 : Int) + (Int.tmod v4 (10 : Int)))))]) ((consE (u8_of _) rfl)) ?_
    refine Exists.intro [(byteOf (w64 ((48 : Int) + (Int.tmod v4 (10 : Int)))))] (And.intro rfl (HY.mk fun _ => ?_))
    refine OB.grd h (fun h7 h => ?_)
    refine NX.next h ?_
    exact Exists.intro [] (And.intro rfl (And.intro trivial (And.intro rfl (And.intro rfl trivial))))
  refine OB.grd h (fun h9 h => ?_)
  exact lf1 h fun e0 => Exists.intro [] (And.intro rfl (And.intro trivial e0))
theorem con_l_markFileS {a0 : (List MFile)} {a1 : Int} {r0 : Int} {r1 : (List MFile)} (h : l_markFileS a0 a1 = some (r0, r1)) : Con Tryz.prog 37 [.own 0, .i .i64 a1] [.arr 3 (List.map MFile.av a0)] (.i .i64 r0) [some (.arr 3 (List.map MFile.av r1))] := by
  refine con_of_awpF hT mixed (fn := Tryz.f37) Tryz.func37 rfl rfl ?_
  unfold l_markFileS at h
  refine LP.fuel (g := l_markFileS_L1 _) (fun (v15, v16, v17) => ⟨[(0, .own 0), (1, .i .i64 v16), (5, .i .i64 v17)], [some (.arr 3 (List.map MFile.av v15))]⟩) h (fun _ h => by cases h) ?_ ?_
  · exact Exists.intro [.id 0] (And.intro rfl (And.intro (And.intro rfl trivial) (And.intro trivial (And.intro rfl (And.intro rfl trivial)))))
  intro n v h
  obtain ⟨v15, v16, v17⟩ := v
  rw [l_markFileS_L1.eq_2] at h
  refine HY.mk (fun _ => ?_)
  refine PS.ite h (fun h18 h => ?_) (fun h18 h => ?_)
  · refine OB.grd h (fun h19 h => ?_)
    refine EX.get h (fun x20 h21 h => ?_)
    refine RN.to (List.map MFile.av (List.set v15 (Int.toNat v17) (MFile.mk v16 x20.Safe x20.Late))) (set_map rfl) ?_
    refine CK.call false [] h (fun _ h => con_l_markText h) (And.intro rfl trivial) trivial rfl (fun _ => rfl) (fun _ => Or.inl rfl) (fun y22 h23 h => ?_)
    refine OB.grd h (fun h24 h => ?_)
    refine EX.get h (fun x25 h26 h => ?_)
    refine RN.to (List.map MFile.av (List.set (List.set v15 (Int.toNat v17) (MFile.mk v16 x20.Safe x20.Late)) (Int.toNat v17) (MFile.mk x25.Name y22 x25.Late))) (set_map rfl) ?_
    refine CK.call false [] h (fun _ h => con_l_markText h) (And.intro rfl trivial) trivial rfl (fun _ => rfl) (fun _ => Or.inl rfl) (fun y27 h28 h => ?_)
    refine OB.grd h (fun h29 h => ?_)
    refine EX.get h (fun x30 h31 h => ?_)
    refine RN.to (List.map MFile.av (List.set (List.set (List.set v15 (Int.toNat v17) (MFile.mk v16 x20.Safe x20.Late)) (Int.toNat v17) (MFile.mk x25.Name y22 x25.Late)) (Int.toNat v17) (MFile.mk x30.Name x30.Safe y27))) (set_map rfl) ?_
    refine NX.next h ?_
    exact Exists.intro [.id 0] (And.intro rfl (And.intro (And.intro rfl trivial) (And.intro trivial (And.intro rfl (And.intro rfl trivial)))))
  exact lf2 h fun e0 e1 => Exists.intro [.id 0] (And.intro rfl (And.intro (And.intro (mpe e1) trivial) e0))
theorem con_l_markDisk {a0_0 : Int} {a0_1 : (List MFile)} {a1 : Int} {r0 : Int} {r1 : (List MFile)} (h : l_markDisk a0_0 a0_1 a1 = some (r0, r1)) : Con Tryz.prog 12 [.agg [.i .i64 a0_0, .own 0], .i .i64 a1] [.arr 3 (List.map MFile.av a0_1)] (.i .i64 r0) [some (.arr 3 (List.map MFile.av r1))] := by
  refine con_of_awpF hT mixed (fn := Tryz.f12) Tryz.func12 rfl rfl ?_
  unfold l_markDisk at h
  refine CK.call false [0] h (fun _ h => con_l_markFileS h) (And.intro rfl (And.intro rfl trivial)) (And.intro rfl trivial) rfl (fun _ => rfl) (fun _ => Or.inl rfl) (fun y1 h2 h => ?_)
  refine RN.mk ?_
  exact lf2 h fun e0 e1 => Exists.intro [.id 0] (And.intro rfl (And.intro (And.intro (mpe e1) trivial) e0))
theorem con_l_markAccountS {a0 : (List MAccount)} {a1 : Int} {r0 : Int} {r1 : (List MAccount)} (h : l_markAccountS a0 a1 = some (r0, r1)) : Con Tryz.prog 85 [.own 0, .i .i64 a1] [.arr 2 (List.map MAccount.av a0)] (.i .i64 r0) [some (.arr 2 (List.map MAccount.av r1))] := by
  refine con_of_awpF hT mixed (fn := Tryz.f85) Tryz.func85 rfl rfl ?_
  unfold l_markAccountS at h
  refine LP.fuel (g := l_markAccountS_L1 _) (fun (v8, v9, v10) => ⟨[(0, .own 0), (1, .i .i64 v9), (5, .i .i64 v10)], [some (.arr 2 (List.map MAccount.av v8))]⟩) h (fun _ h => by cases h) ?_ ?_
  · exact Exists.intro [.id 0] (And.intro rfl (And.intro (And.intro rfl trivial) (And.intro trivial (And.intro rfl (And.intro rfl trivial)))))
  intro n v h
  obtain ⟨v8, v9, v10⟩ := v
  rw [l_markAccountS_L1.eq_2] at h
  refine HY.mk (fun _ => ?_)
  refine PS.ite h (fun h11 h => ?_) (fun h11 h => ?_)
  · refine OB.grd h (fun h12 h => ?_)
    refine EX.get h (fun x13 h14 h => ?_)
    refine RN.to (List.map MAccount.av (List.set v8 (Int.toNat v10) (MAccount.mk v9 x13.Kind))) (set_map rfl) ?_
    refine OB.grd h (fun h15 h => ?_)
    refine EX.get h (fun x16 h17 h => ?_)
    refine RN.to (List.map MAccount.av (List.set (List.set v8 (Int.toNat v10) (MAccount.mk v9 x13.Kind)) (Int.toNat v10) (MAccount.mk x16.No (w64 (v9 + (1 : Int)))))) (set_map rfl) ?_
    refine NX.next h ?_
    exact Exists.intro [.id 0] (And.intro rfl (And.intro (And.intro rfl trivial) (And.intro trivial (And.intro rfl (And.intro rfl trivial)))))
  exact lf2 h fun e0 e1 => Exists.intro [.id 0] (And.intro rfl (And.intro (And.intro (mpe e1) trivial) e0))
theorem con_l_markInstrS {a0 : (List MInstr)} {a1 : Int} {r0 : Int} {r1 : (List MInstr)} (h : l_markInstrS a0 a1 = some (r0, r1)) : Con Tryz.prog 86 [.own 0, .i .i64 a1] [.arr 2 (List.map MInstr.av a0)] (.i .i64 r0) [some (.arr 2 (List.map MInstr.av r1))] := by
  refine con_of_awpF hT mixed (fn := Tryz.f86) Tryz.func86 rfl rfl ?_
  unfold l_markInstrS at h
  refine LP.fuel (g := l_markInstrS_L1 _) (fun (v8, v9, v10) => ⟨[(0, .own 0), (1, .i .i64 v9), (5, .i .i64 v10)], [some (.arr 2 (List.map MInstr.av v8))]⟩) h (fun _ h => by cases h) ?_ ?_
  · exact Exists.intro [.id 0] (And.intro rfl (And.intro (And.intro rfl trivial) (And.intro trivial (And.intro rfl (And.intro rfl trivial)))))
  intro n v h
  obtain ⟨v8, v9, v10⟩ := v
  rw [l_markInstrS_L1.eq_2] at h
  refine HY.mk (fun _ => ?_)
  refine PS.ite h (fun h11 h => ?_) (fun h11 h => ?_)
  · refine OB.grd h (fun h12 h => ?_)
    refine EX.get h (fun x13 h14 h => ?_)
    refine RN.to (List.map MInstr.av (List.set v8 (Int.toNat v10) (MInstr.mk v9 x13.Kind))) (set_map rfl) ?_
    refine OB.grd h (fun h15 h => ?_)
    refine EX.get h (fun x16 h17 h => ?_)
    refine RN.to (List.map MInstr.av (List.set (List.set v8 (Int.toNat v10) (MInstr.mk v9 x13.Kind)) (Int.toNat v10) (MInstr.mk x16.No (w64 (v9 + (1 : Int)))))) (set_map rfl) ?_
    refine NX.next h ?_
    exact Exists.intro [.id 0] (And.intro rfl (And.intro (And.intro rfl trivial) (And.intro trivial (And.intro rfl (And.intro rfl trivial)))))
  exact lf2 h fun e0 e1 => Exists.intro [.id 0] (And.intro rfl (And.intro (And.intro (mpe e1) trivial) e0))
theorem con_l_markBalS {a0 : (List MBal)} {a1 : Int} {r0 : Int} {r1 : (List MBal)} (h : l_markBalS a0 a1 = some (r0, r1)) : Con Tryz.prog 87 [.own 0, .i .i64 a1] [.arr 3 (List.map MBal.av a0)] (.i .i64 r0) [some (.arr 3 (List.map MBal.av r1))] := by
  refine con_of_awpF hT mixed (fn := Tryz.f87) Tryz.func87 rfl rfl ?_
  unfold l_markBalS at h
  refine LP.fuel (g := l_markBalS_L1 _) (fun (v11, v12, v13) => ⟨[(0, .own 0), (1, .i .i64 v12), (5, .i .i64 v13)], [some (.arr 3 (List.map MBal.av v11))]⟩) h (fun _ h => by cases h) ?_ ?_
  · exact Exists.intro [.id 0] (And.intro rfl (And.intro (And.intro rfl trivial) (And.intro trivial (And.intro rfl (And.intro rfl trivial)))))
  intro n v h
  obtain ⟨v11, v12, v13⟩ := v
  rw [l_markBalS_L1.eq_2] at h
  refine HY.mk (fun _ => ?_)
  refine PS.ite h (fun h14 h => ?_) (fun h14 h => ?_)
  · refine OB.grd h (fun h15 h => ?_)
    refine EX.get h (fun x16 h17 h => ?_)
    refine RN.to (List.map MBal.av (List.set v11 (Int.toNat v13) (MBal.mk v12 x16.Instr x16.Amount))) (set_map rfl) ?_
    refine OB.grd h (fun h18 h => ?_)
    refine EX.get h (fun x19 h20 h => ?_)
    refine RN.to (List.map MBal.av (List.set (List.set v11 (Int.toNat v13) (MBal.mk v12 x16.Instr x16.Amount)) (Int.toNat v13) (MBal.mk x19.Account (w64 (v12 + (1 : Int))) x19.Amount))) (set_map rfl) ?_
    refine OB.grd h (fun h21 h => ?_)
    refine EX.get h (fun x22 h23 h => ?_)
    refine RN.to (List.map MBal.av (List.set (List.set (List.set v11 (Int.toNat v13) (MBal.mk v12 x16.Instr x16.Amount)) (Int.toNat v13) (MBal.mk x19.Account (w64 (v12 + (1 : Int))) x19.Amount)) (Int.toNat v13) (MBal.mk x22.Account x22.Instr (w64 ((w64 (v12 + (1 : Int))) + (1 : Int)))))) (set_map rfl) ?_
    refine NX.next h ?_
    exact Exists.intro [.id 0] (And.intro rfl (And.intro (And.intro rfl trivial) (And.intro trivial (And.intro rfl (And.intro rfl trivial)))))
  exact lf2 h fun e0 e1 => Exists.intro [.id 0] (And.intro rfl (And.intro (And.intro (mpe e1) trivial) e0))

end Go.Proofs.YtbknlijpkabcnaaGreat.K
