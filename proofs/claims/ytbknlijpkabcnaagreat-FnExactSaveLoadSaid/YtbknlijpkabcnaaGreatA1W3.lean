/- The functions of the program compute the plain functions. No condition. -/
import Derived.Test.YtbknlijpkabcnaaGreatA1W2
namespace Go.Proofs.YtbknlijpkabcnaaGreat.K
set_option linter.all false
open Go

set_option maxRecDepth 20000
set_option maxHeartbeats 4000000

theorem con_i_balsRight {a0 : MBooks} {r0 : Bool} (h : i_balsRight a0 = some r0) : Con Tryz.prog 140 [.agg [.sl 2 (List.map MAccount.av a0.Accounts), .sl 2 (List.map MInstr.av a0.Instrs), .sl 3 (List.map MBal.av a0.Bals), .sl 5 (List.map MLot.av a0.Lots), .sl 8 (List.map MTrade.av a0.Trades), .i .i64 a0.Lot]] [] (.p (r0 = true)) [] := by
  refine con_of_awpF hT mixed (fn := Tryz.f140) Tryz.func140 rfl rfl ?_
  unfold i_balsRight at h
  refine HY.mk (fun _ => ?_)
  refine LP.fuel (g := i_balsRight_L1 a0 _) (fun v19 => ⟨[(1, .ptr 0 0), (7, .sl 3 (List.map MBal.av a0.Bals)), (8, .i .i64 ((ln (List.map MBal.av a0.Bals)))), (9, .i .i64 v19)], [some (.box [.sl 2 (List.map MAccount.av a0.Accounts), .sl 2 (List.map MInstr.av a0.Instrs), .sl 3 (List.map MBal.av a0.Bals), .sl 5 (List.map MLot.av a0.Lots), .sl 8 (List.map MTrade.av a0.Trades), .i .i64 a0.Lot])]⟩) h (fun _ h => by cases h) ?_ ?_
  · exact Exists.intro [.id 0] (And.intro rfl (And.intro (And.intro (And.intro rfl (And.intro rfl (And.intro rfl (And.intro rfl (And.intro rfl (And.intro rfl trivial)))))) trivial) (And.intro trivial (And.intro rfl (And.intro rfl (And.intro rfl trivial))))))
  intro n v19 h
  rw [i_balsRight_L1.eq_2] at h
  refine PS.ite h (fun h20 h => ?_) (fun h20 h => ?_)
  · refine OB.grd h (fun h21 h => ?_)
    refine EX.get h (fun x22 h23 h => ?_)
    refine CK.call false [] h (fun _ h => con_i_accountKind h) (And.intro rfl (And.intro rfl trivial)) trivial rfl (fun _ => rfl) (fun _ => Or.inl rfl) (fun y24 h25 h => ?_)
    refine PS.ite h (fun h26 h => ?_) (fun h26 h => ?_)
    · exact lf1 h fun e0 => Exists.intro [] (And.intro rfl (And.intro trivial (be e0)))
    refine CK.call false [] h (fun _ h => con_i_instrKind h) (And.intro rfl (And.intro rfl trivial)) trivial rfl (fun _ => rfl) (fun _ => Or.inl rfl) (fun y27 h28 h => ?_)
    refine PS.ite h (fun h29 h => ?_) (fun h29 h => ?_)
    · exact lf1 h fun e0 => Exists.intro [] (And.intro rfl (And.intro trivial (be e0)))
    refine PS.ite h (fun h30 h => ?_) (fun h30 h => ?_)
    · refine PS.ite h (fun h31 h => ?_) (fun h31 h => ?_)
      · exact lf1 h fun e0 => Exists.intro [] (And.intro rfl (And.intro trivial (be e0)))
      refine CK.call false [] h (fun _ h => con_i_balsSum h) (And.intro rfl (And.intro rfl trivial)) trivial rfl (fun _ => rfl) (fun _ => Or.inl rfl) (fun y32 h33 h => ?_)
      refine PS.ite h (fun h34 h => ?_) (fun h34 h => ?_)
      · exact lf1 h fun e0 => Exists.intro [] (And.intro rfl (And.intro trivial (be e0)))
      refine NX.next h ?_
      exact Exists.intro [.id 0] (And.intro rfl (And.intro (And.intro (And.intro rfl (And.intro rfl (And.intro rfl (And.intro rfl (And.intro rfl (And.intro rfl trivial)))))) trivial) (And.intro trivial (And.intro rfl (And.intro rfl (And.intro rfl trivial))))))
    refine CK.call false [] h (fun _ h => con_i_balsSum h) (And.intro rfl (And.intro rfl trivial)) trivial rfl (fun _ => rfl) (fun _ => Or.inl rfl) (fun y35 h36 h => ?_)
    refine PS.ite h (fun h37 h => ?_) (fun h37 h => ?_)
    · exact lf1 h fun e0 => Exists.intro [] (And.intro rfl (And.intro trivial (be e0)))
    refine NX.next h ?_
    exact Exists.intro [.id 0] (And.intro rfl (And.intro (And.intro (And.intro rfl (And.intro rfl (And.intro rfl (And.intro rfl (And.intro rfl (And.intro rfl trivial)))))) trivial) (And.intro trivial (And.intro rfl (And.intro rfl (And.intro rfl trivial))))))
  exact lf1 h fun e0 => Exists.intro [] (And.intro rfl (And.intro trivial (be e0)))
theorem con_i_balAt {a0 : (List MBal)} {a1 : Int} {a2 : Int} {r0 : Int} {r1 : Bool} (h : i_balAt a0 a1 a2 = some (r0, r1)) : Con Tryz.prog 195 [.sl 3 (List.map MBal.av a0), .i .i64 a1, .i .i64 a2] [] (.tup [.i .i64 r0, .p (r1 = true)]) [] := by
  refine con_of_awpF hT mixed (fn := Tryz.f195) Tryz.func195 rfl rfl ?_
  unfold i_balAt at h
  refine HY.mk (fun _ => ?_)
  refine LP.fuel (g := i_balAt_L1 a0 a1 a2 _) (fun v8 => ⟨[(0, .sl 3 (List.map MBal.av a0)), (1, .i .i64 a1), (2, .i .i64 a2), (11, .sl 3 (List.map MBal.av a0)), (12, .i .i64 ((ln (List.map MBal.av a0)))), (13, .i .i64 v8)], []⟩) h (fun _ h => by cases h) ?_ ?_
  · exact Exists.intro [] (And.intro rfl (And.intro trivial (And.intro rfl (And.intro rfl (And.intro rfl (And.intro rfl (And.intro rfl (And.intro rfl trivial))))))))
  intro n v8 h
  rw [i_balAt_L1.eq_2] at h
  refine PS.ite h (fun h9 h => ?_) (fun h9 h => ?_)
  · refine OB.grd h (fun h10 h => ?_)
    refine EX.get h (fun x11 h12 h => ?_)
    refine CK.call false [] h (fun _ h => con_i_byBoth h) (And.intro rfl (And.intro rfl (And.intro rfl (And.intro rfl trivial)))) trivial rfl (fun _ => rfl) (fun _ => Or.inl rfl) (fun y13 h14 h => ?_)
    refine PS.ite h (fun h15 h => ?_) (fun h15 h => ?_)
    · exact lf2 h fun e0 e1 => Exists.intro [] (And.intro rfl (And.intro trivial (And.intro e0 (And.intro (pqe e1) trivial))))
    refine NX.next h ?_
    exact Exists.intro [] (And.intro rfl (And.intro trivial (And.intro rfl (And.intro rfl (And.intro rfl (And.intro rfl (And.intro rfl (And.intro rfl trivial))))))))
  refine HY.mk (fun _ => ?_)
  exact lf2 h fun e0 e1 => Exists.intro [] (And.intro rfl (And.intro trivial (And.intro e0 (And.intro (be e1) trivial))))
theorem con_i_balOf {a0 : (List MBal)} {a1 : Int} {a2 : Int} {r0 : Int} (h : i_balOf a0 a1 a2 = some r0) : Con Tryz.prog 181 [.sl 3 (List.map MBal.av a0), .i .i64 a1, .i .i64 a2] [] (.i .i64 r0) [] := by
  refine con_of_awpF hT mixed (fn := Tryz.f181) Tryz.func181 rfl rfl ?_
  unfold i_balOf at h
  refine CK.call false [] h (fun _ h => con_i_balAt h) (And.intro rfl (And.intro rfl (And.intro rfl trivial))) trivial rfl (fun _ => rfl) (fun _ => Or.inl rfl) (fun y1 h2 h => ?_)
  refine PS.ite h (fun h3 h => ?_) (fun h3 h => ?_)
  · exact lf1 h fun e0 => Exists.intro [] (And.intro rfl (And.intro trivial e0))
  refine OB.grd h (fun h4 h => ?_)
  refine EX.get h (fun x5 h6 h => ?_)
  exact lf1 h fun e0 => Exists.intro [] (And.intro rfl (And.intro trivial e0))
theorem con_i_lotsRight {a0 : MBooks} {r0 : Bool} (h : i_lotsRight a0 = some r0) : Con Tryz.prog 141 [.agg [.sl 2 (List.map MAccount.av a0.Accounts), .sl 2 (List.map MInstr.av a0.Instrs), .sl 3 (List.map MBal.av a0.Bals), .sl 5 (List.map MLot.av a0.Lots), .sl 8 (List.map MTrade.av a0.Trades), .i .i64 a0.Lot]] [] (.p (r0 = true)) [] := by
  refine con_of_awpF hT mixed (fn := Tryz.f141) Tryz.func141 rfl rfl ?_
  unfold i_lotsRight at h
  refine HY.mk (fun _ => ?_)
  refine LP.fuel (g := i_lotsRight_L1 a0 _) (fun v12 => ⟨[(1, .ptr 0 0), (12, .sl 5 (List.map MLot.av a0.Lots)), (13, .i .i64 ((ln (List.map MLot.av a0.Lots)))), (14, .i .i64 v12), (58, .tup []), (59, .tup []), (60, .tup [])], [some (.box [.sl 2 (List.map MAccount.av a0.Accounts), .sl 2 (List.map MInstr.av a0.Instrs), .sl 3 (List.map MBal.av a0.Bals), .sl 5 (List.map MLot.av a0.Lots), .sl 8 (List.map MTrade.av a0.Trades), .i .i64 a0.Lot])]⟩) h (fun _ h => by cases h) ?_ ?_
  · exact Exists.intro [.id 0] (And.intro rfl (And.intro (And.intro (And.intro rfl (And.intro rfl (And.intro rfl (And.intro rfl (And.intro rfl (And.intro rfl trivial)))))) trivial) (And.intro trivial (And.intro rfl (And.intro rfl (And.intro rfl (And.intro trivial (And.intro trivial (And.intro trivial trivial)))))))))
  intro n v12 h
  rw [i_lotsRight_L1.eq_2] at h
  refine PS.ite h (fun h13 h => ?_) (fun h13 h => ?_)
  · refine OB.grd h (fun h14 h => ?_)
    refine EX.get h (fun x15 h16 h => ?_)
    refine CK.call false [] h (fun _ h => con_i_accountKind h) (And.intro rfl (And.intro rfl trivial)) trivial rfl (fun _ => rfl) (fun _ => Or.inl rfl) (fun y17 h18 h => ?_)
    refine PS.ite h (fun h19 h => ?_) (fun h19 h => ?_)
    · exact lf1 h fun e0 => Exists.intro [] (And.intro rfl (And.intro trivial (be e0)))
    refine CK.call false [] h (fun _ h => con_i_instrKind h) (And.intro rfl (And.intro rfl trivial)) trivial rfl (fun _ => rfl) (fun _ => Or.inl rfl) (fun y20 h21 h => ?_)
    refine PS.ite h (fun h22 h => ?_) (fun h22 h => ?_)
    · exact lf1 h fun e0 => Exists.intro [] (And.intro rfl (And.intro trivial (be e0)))
    refine PS.ite h (fun h23 h => ?_) (fun h23 h => ?_)
    · exact lf1 h fun e0 => Exists.intro [] (And.intro rfl (And.intro trivial (be e0)))
    refine NX.next h ?_
    exact Exists.intro [.id 0] (And.intro rfl (And.intro (And.intro (And.intro rfl (And.intro rfl (And.intro rfl (And.intro rfl (And.intro rfl (And.intro rfl trivial)))))) trivial) (And.intro trivial (And.intro rfl (And.intro rfl (And.intro rfl (And.intro trivial (And.intro trivial (And.intro trivial trivial)))))))))
  refine HY.mk (fun _ => ?_)
  refine LP.fuel (g := i_lotsRight_L2 a0 _) (fun v55 => ⟨[(1, .ptr 0 0), (41, .sl 2 (List.map MAccount.av a0.Accounts)), (42, .i .i64 ((ln (List.map MAccount.av a0.Accounts)))), (43, .i .i64 v55)], [some (.box [.sl 2 (List.map MAccount.av a0.Accounts), .sl 2 (List.map MInstr.av a0.Instrs), .sl 3 (List.map MBal.av a0.Bals), .sl 5 (List.map MLot.av a0.Lots), .sl 8 (List.map MTrade.av a0.Trades), .i .i64 a0.Lot])]⟩) h (fun _ h => by cases h) ?_ ?_
  · exact Exists.intro [.id 0] (And.intro rfl (And.intro (And.intro (And.intro rfl (And.intro rfl (And.intro rfl (And.intro rfl (And.intro rfl (And.intro rfl trivial)))))) trivial) (And.intro trivial (And.intro rfl (And.intro rfl (And.intro rfl trivial))))))
  intro n v55 h
  rw [i_lotsRight_L2.eq_2] at h
  refine PS.ite h (fun h56 h => ?_) (fun h56 h => ?_)
  · refine OB.grd h (fun h57 h => ?_)
    refine EX.get h (fun x58 h59 h => ?_)
    refine HY.mk (fun _ => ?_)
    refine LP.fuel (g := i_lotsRight_L3 a0 x58 _) (fun v73 => ⟨[(1, .ptr 0 0), (6, .ptr 1 0), (41, .sl 2 (List.map MAccount.av a0.Accounts)), (42, .i .i64 ((ln (List.map MAccount.av a0.Accounts)))), (43, .i .i64 v55), (48, .sl 2 (List.map MInstr.av a0.Instrs)), (49, .i .i64 ((ln (List.map MInstr.av a0.Instrs)))), (50, .i .i64 v73)], [some (.box [.sl 2 (List.map MAccount.av a0.Accounts), .sl 2 (List.map MInstr.av a0.Instrs), .sl 3 (List.map MBal.av a0.Bals), .sl 5 (List.map MLot.av a0.Lots), .sl 8 (List.map MTrade.av a0.Trades), .i .i64 a0.Lot]), some (.box [.i .i64 x58.No, .i .i64 x58.Kind])]⟩) h (fun _ h => by cases h) ?_ ?_
    · exact Exists.intro [.id 0, .id 49] (And.intro rfl (And.intro (And.intro (And.intro rfl (And.intro rfl (And.intro rfl (And.intro rfl (And.intro rfl (And.intro rfl trivial)))))) (And.intro (And.intro rfl (And.intro rfl trivial)) trivial)) (And.intro trivial (And.intro trivial (And.intro rfl (And.intro rfl (And.intro rfl (And.intro rfl (And.intro rfl (And.intro rfl trivial))))))))))
    intro n v73 h
    rw [i_lotsRight_L3.eq_2] at h
    refine PS.ite h (fun h74 h => ?_) (fun h74 h => ?_)
    · refine OB.grd h (fun h75 h => ?_)
      refine EX.get h (fun x76 h77 h => ?_)
      refine PS.ite h (fun h78 h => ?_) (fun h78 h => ?_)
      · refine NX.next h ?_
        exact Exists.intro [.id 0, .id 1] (And.intro rfl (And.intro (And.intro (And.intro rfl (And.intro rfl (And.intro rfl (And.intro rfl (And.intro rfl (And.intro rfl trivial)))))) (And.intro (And.intro rfl (And.intro rfl trivial)) trivial)) (And.intro trivial (And.intro trivial (And.intro rfl (And.intro rfl (And.intro rfl (And.intro rfl (And.intro rfl (And.intro rfl trivial))))))))))
      refine PS.ite h (fun h79 h => ?_) (fun h79 h => ?_)
      · refine NX.next h ?_
        exact Exists.intro [.id 0, .id 1] (And.intro rfl (And.intro (And.intro (And.intro rfl (And.intro rfl (And.intro rfl (And.intro rfl (And.intro rfl (And.intro rfl trivial)))))) (And.intro (And.intro rfl (And.intro rfl trivial)) trivial)) (And.intro trivial (And.intro trivial (And.intro rfl (And.intro rfl (And.intro rfl (And.intro rfl (And.intro rfl (And.intro rfl trivial))))))))))
      refine CK.call false [] h (fun _ h => con_i_lotsOf h) (And.intro rfl (And.intro rfl (And.intro rfl trivial))) trivial rfl (fun _ => rfl) (fun _ => Or.inl rfl) (fun y80 h81 h => ?_)
      refine RN.mk ?_
      refine CK.call false [] h (fun _ h => con_i_sumLots h) (And.intro rfl trivial) trivial rfl (fun _ => rfl) (fun _ => Or.inr (Flat.mk rfl trivial)) (fun y82 h83 h => ?_)
      refine CK.call false [] h (fun _ h => con_i_balOf h) (And.intro rfl (And.intro rfl (And.intro rfl trivial))) trivial rfl (fun _ => rfl) (fun _ => Or.inl rfl) (fun y84 h85 h => ?_)
      refine PS.ite h (fun h86 h => ?_) (fun h86 h => ?_)
      · exact lf1 h fun e0 => Exists.intro [] (And.intro rfl (And.intro trivial (be e0)))
      refine NX.next h ?_
      exact Exists.intro [.id 0, .id 1] (And.intro rfl (And.intro (And.intro (And.intro rfl (And.intro rfl (And.intro rfl (And.intro rfl (And.intro rfl (And.intro rfl trivial)))))) (And.intro (And.intro rfl (And.intro rfl trivial)) trivial)) (And.intro trivial (And.intro trivial (And.intro rfl (And.intro rfl (And.intro rfl (And.intro rfl (And.intro rfl (And.intro rfl trivial))))))))))
    refine NX.next h ?_
    exact Exists.intro [.id 0] (And.intro rfl (And.intro (And.intro (And.intro rfl (And.intro rfl (And.intro rfl (And.intro rfl (And.intro rfl (And.intro rfl trivial)))))) trivial) (And.intro trivial (And.intro rfl (And.intro rfl (And.intro rfl trivial))))))
  exact lf1 h fun e0 => Exists.intro [] (And.intro rfl (And.intro trivial (be e0)))
theorem con_i_tradesRight_c1 {a0 : MTrade} {a1_0 : (List MAccount)} {a1_1 : (List MInstr)} {a1_2 : (List MBal)} {a1_3 : (List MLot)} {a1_4 : (List MTrade)} {a1_5 : Int} {r0 : Bool} (h : i_tradesRight_c1 a0 a1_0 a1_1 a1_2 a1_3 a1_4 a1_5 = some r0) : Con Tryz.prog 183 [.agg [.i .i64 a0.No, .i .i64 a0.Buyer, .i .i64 a0.Seller, .i .i64 a0.Paper, .i .i64 a0.Qty, .i .i64 a0.Cash, .i .i64 a0.Price, .i .i64 a0.State], .rp [.sl 2 (List.map MAccount.av a1_0), .sl 2 (List.map MInstr.av a1_1), .sl 3 (List.map MBal.av a1_2), .sl 5 (List.map MLot.av a1_3), .sl 8 (List.map MTrade.av a1_4), .i .i64 a1_5]] [] (.p (r0 = true)) [] := by
  refine con_of_awpF hT mixed (fn := Tryz.f183) Tryz.func183 rfl rfl ?_
  unfold i_tradesRight_c1 at h
  refine CK.call false [] h (fun _ h => con_i_accountKind h) (And.intro rfl (And.intro rfl trivial)) trivial rfl (fun _ => rfl) (fun _ => Or.inl rfl) (fun y1 h2 h => ?_)
  refine PS.ite h (fun h3 h => ?_) (fun h3 h => ?_)
  · exact lf1 h fun e0 => Exists.intro [] (And.intro rfl (And.intro trivial (be e0)))
  refine CK.call false [] h (fun _ h => con_i_accountKind h) (And.intro rfl (And.intro rfl trivial)) trivial rfl (fun _ => rfl) (fun _ => Or.inl rfl) (fun y4 h5 h => ?_)
  refine PS.ite h (fun h6 h => ?_) (fun h6 h => ?_)
  · exact lf1 h fun e0 => Exists.intro [] (And.intro rfl (And.intro trivial (be e0)))
  refine CK.call false [] h (fun _ h => con_i_instrKind h) (And.intro rfl (And.intro rfl trivial)) trivial rfl (fun _ => rfl) (fun _ => Or.inl rfl) (fun y7 h8 h => ?_)
  refine PS.ite h (fun h9 h => ?_) (fun h9 h => ?_)
  · exact lf1 h fun e0 => Exists.intro [] (And.intro rfl (And.intro trivial (be e0)))
  refine CK.call false [] h (fun _ h => con_i_instrKind h) (And.intro rfl (And.intro rfl trivial)) trivial rfl (fun _ => rfl) (fun _ => Or.inl rfl) (fun y10 h11 h => ?_)
  exact lf1 h fun e0 => Exists.intro [] (And.intro rfl (And.intro trivial (pqe e0)))
theorem con_g_IndexFunc_Trade {a0 : (List MTrade)} {a1_0_0 : (List MAccount)} {a1_0_1 : (List MInstr)} {a1_0_2 : (List MBal)} {a1_0_3 : (List MLot)} {a1_0_4 : (List MTrade)} {a1_0_5 : Int} {r0 : Int} (h : g_IndexFunc_Trade a0 a1_0_0 a1_0_1 a1_0_2 a1_0_3 a1_0_4 a1_0_5 = some r0) : Con Tryz.prog 196 [.sl 8 (List.map MTrade.av a0), .fn (.func 183) [] [.rp [.sl 2 (List.map MAccount.av a1_0_0), .sl 2 (List.map MInstr.av a1_0_1), .sl 3 (List.map MBal.av a1_0_2), .sl 5 (List.map MLot.av a1_0_3), .sl 8 (List.map MTrade.av a1_0_4), .i .i64 a1_0_5]]] [] (.i .i64 r0) [] := by
  refine con_of_awpF hT mixed (fn := Tryz.f196) Tryz.func196 rfl rfl ?_
  unfold g_IndexFunc_Trade at h
  refine HY.mk (fun _ => ?_)
  refine LP.fuel (g := g_IndexFunc_Trade_L1 a0 a1_0_0 a1_0_1 a1_0_2 a1_0_3 a1_0_4 a1_0_5 _) (fun v8 => ⟨[(0, .sl 8 (List.map MTrade.av a0)), (1, .fn (.func 183) [] [.rp [.sl 2 (List.map MAccount.av a1_0_0), .sl 2 (List.map MInstr.av a1_0_1), .sl 3 (List.map MBal.av a1_0_2), .sl 5 (List.map MLot.av a1_0_3), .sl 8 (List.map MTrade.av a1_0_4), .i .i64 a1_0_5]]), (7, .i .i64 ((ln (List.map MTrade.av a0)))), (8, .i .i64 v8)], []⟩) h (fun _ h => by cases h) ?_ ?_
  · exact Exists.intro [] (And.intro rfl (And.intro trivial (And.intro rfl (And.intro (And.intro rfl (And.intro rfl rfl)) (And.intro rfl (And.intro rfl trivial))))))
  intro n v8 h
  rw [g_IndexFunc_Trade_L1.eq_2] at h
  refine PS.ite h (fun h9 h => ?_) (fun h9 h => ?_)
  · refine OB.grd h (fun h10 h => ?_)
    refine EX.get h (fun x11 h12 h => ?_)
    refine CK.call false [] h (fun _ h => con_i_tradesRight_c1 h) (And.intro (And.intro rfl (And.intro rfl (And.intro rfl (And.intro rfl (And.intro rfl (And.intro rfl (And.intro rfl (And.intro rfl trivial)))))))) (And.intro (And.intro rfl (And.intro rfl (And.intro rfl (And.intro rfl (And.intro rfl (And.intro rfl trivial)))))) trivial)) trivial rfl (fun _ => rfl) (fun _ => Or.inl rfl) (fun y13 h14 h => ?_)
    refine PS.ite h (fun h15 h => ?_) (fun h15 h => ?_)
    · exact lf1 h fun e0 => Exists.intro [] (And.intro rfl (And.intro trivial e0))
    refine NX.next h ?_
    exact Exists.intro [] (And.intro rfl (And.intro trivial (And.intro rfl (And.intro (And.intro rfl (And.intro rfl rfl)) (And.intro rfl (And.intro rfl trivial))))))
  exact lf1 h fun e0 => Exists.intro [] (And.intro rfl (And.intro trivial e0))
theorem con_g_ContainsFunc_Trade {a0 : (List MTrade)} {a1_0_0 : (List MAccount)} {a1_0_1 : (List MInstr)} {a1_0_2 : (List MBal)} {a1_0_3 : (List MLot)} {a1_0_4 : (List MTrade)} {a1_0_5 : Int} {r0 : Bool} (h : g_ContainsFunc_Trade a0 a1_0_0 a1_0_1 a1_0_2 a1_0_3 a1_0_4 a1_0_5 = some r0) : Con Tryz.prog 182 [.sl 8 (List.map MTrade.av a0), .fn (.func 183) [] [.rp [.sl 2 (List.map MAccount.av a1_0_0), .sl 2 (List.map MInstr.av a1_0_1), .sl 3 (List.map MBal.av a1_0_2), .sl 5 (List.map MLot.av a1_0_3), .sl 8 (List.map MTrade.av a1_0_4), .i .i64 a1_0_5]]] [] (.p (r0 = true)) [] := by
  refine con_of_awpF hT mixed (fn := Tryz.f182) Tryz.func182 rfl rfl ?_
  unfold g_ContainsFunc_Trade at h
  refine CK.call false [] h (fun _ h => con_g_IndexFunc_Trade h) (And.intro rfl (And.intro (And.intro rfl (And.intro trivial (And.intro (And.intro rfl (And.intro rfl (And.intro rfl (And.intro rfl (And.intro rfl (And.intro rfl trivial)))))) trivial))) trivial)) trivial rfl (fun _ => rfl) (fun _ => Or.inl rfl) (fun y1 h2 h => ?_)
  exact lf1 h fun e0 => Exists.intro [] (And.intro rfl (And.intro trivial (pqe e0)))
theorem con_i_tradesRight {a0 : MBooks} {r0 : Bool} (h : i_tradesRight a0 = some r0) : Con Tryz.prog 142 [.agg [.sl 2 (List.map MAccount.av a0.Accounts), .sl 2 (List.map MInstr.av a0.Instrs), .sl 3 (List.map MBal.av a0.Bals), .sl 5 (List.map MLot.av a0.Lots), .sl 8 (List.map MTrade.av a0.Trades), .i .i64 a0.Lot]] [] (.p (r0 = true)) [] := by
  refine con_of_awpF hT mixed (fn := Tryz.f142) Tryz.func142 rfl rfl ?_
  unfold i_tradesRight at h
  refine CK.call false [] h (fun _ h => con_g_ContainsFunc_Trade h) (And.intro rfl (And.intro (And.intro rfl (And.intro trivial (And.intro (And.intro rfl (And.intro rfl (And.intro rfl (And.intro rfl (And.intro rfl (And.intro rfl trivial)))))) trivial))) trivial)) trivial rfl (fun _ => rfl) (fun _ => Or.inr (Flat.mk rfl trivial)) (fun y1 h2 h => ?_)
  exact lf1 h fun e0 => Exists.intro [] (And.intro rfl (And.intro trivial (pqe e0)))
theorem con_i_BooksOk {a0 : MBooks} {r0 : Bool} (h : i_BooksOk a0 = some r0) : Con Tryz.prog 74 [.agg [.sl 2 (List.map MAccount.av a0.Accounts), .sl 2 (List.map MInstr.av a0.Instrs), .sl 3 (List.map MBal.av a0.Bals), .sl 5 (List.map MLot.av a0.Lots), .sl 8 (List.map MTrade.av a0.Trades), .i .i64 a0.Lot]] [] (.p (r0 = true)) [] := by
  refine con_of_awpF hT mixed (fn := Tryz.f74) Tryz.func74 rfl rfl ?_
  unfold i_BooksOk at h
  refine CK.call false [] h (fun _ h => con_i_AccountsOk h) (And.intro rfl trivial) trivial rfl (fun _ => rfl) (fun _ => Or.inl rfl) (fun y1 h2 h => ?_)
  refine PS.ite h (fun h3 h => ?_) (fun h3 h => ?_)
  · exact lf1 h fun e0 => Exists.intro [] (And.intro rfl (And.intro trivial (be e0)))
  refine CK.call false [] h (fun _ h => con_i_InstrsOk h) (And.intro rfl trivial) trivial rfl (fun _ => rfl) (fun _ => Or.inl rfl) (fun y4 h5 h => ?_)
  refine PS.ite h (fun h6 h => ?_) (fun h6 h => ?_)
  · exact lf1 h fun e0 => Exists.intro [] (And.intro rfl (And.intro trivial (be e0)))
  refine CK.call false [] h (fun _ h => con_i_BalsOk h) (And.intro rfl trivial) trivial rfl (fun _ => rfl) (fun _ => Or.inl rfl) (fun y7 h8 h => ?_)
  refine PS.ite h (fun h9 h => ?_) (fun h9 h => ?_)
  · exact lf1 h fun e0 => Exists.intro [] (And.intro rfl (And.intro trivial (be e0)))
  refine CK.call false [] h (fun _ h => con_i_LotsOk h) (And.intro rfl trivial) trivial rfl (fun _ => rfl) (fun _ => Or.inl rfl) (fun y10 h11 h => ?_)
  refine PS.ite h (fun h12 h => ?_) (fun h12 h => ?_)
  · exact lf1 h fun e0 => Exists.intro [] (And.intro rfl (And.intro trivial (be e0)))
  refine CK.call false [] h (fun _ h => con_i_TradesOk h) (And.intro rfl trivial) trivial rfl (fun _ => rfl) (fun _ => Or.inl rfl) (fun y13 h14 h => ?_)
  refine PS.ite h (fun h15 h => ?_) (fun h15 h => ?_)
  · exact lf1 h fun e0 => Exists.intro [] (And.intro rfl (And.intro trivial (be e0)))
  refine CK.call false [] h (fun _ h => con_i_in h) (And.intro rfl (And.intro rfl (And.intro rfl trivial))) trivial rfl (fun _ => rfl) (fun _ => Or.inl rfl) (fun y16 h17 h => ?_)
  refine PS.ite h (fun h18 h => ?_) (fun h18 h => ?_)
  · exact lf1 h fun e0 => Exists.intro [] (And.intro rfl (And.intro trivial (be e0)))
  refine CK.call false [] h (fun _ h => con_i_balsRight h) (And.intro (And.intro rfl (And.intro rfl (And.intro rfl (And.intro rfl (And.intro rfl (And.intro rfl trivial)))))) trivial) trivial rfl (fun _ => rfl) (fun _ => Or.inl rfl) (fun y19 h20 h => ?_)
  refine PS.ite h (fun h21 h => ?_) (fun h21 h => ?_)
  · refine CK.call false [] h (fun _ h => con_i_lotsRight h) (And.intro (And.intro rfl (And.intro rfl (And.intro rfl (And.intro rfl (And.intro rfl (And.intro rfl trivial)))))) trivial) trivial rfl (fun _ => rfl) (fun _ => Or.inl rfl) (fun y22 h23 h => ?_)
    refine PS.ite h (fun h24 h => ?_) (fun h24 h => ?_)
    · refine CK.call false [] h (fun _ h => con_i_tradesRight h) (And.intro (And.intro rfl (And.intro rfl (And.intro rfl (And.intro rfl (And.intro rfl (And.intro rfl trivial)))))) trivial) trivial rfl (fun _ => rfl) (fun _ => Or.inl rfl) (fun y25 h26 h => ?_)
      exact lf1 h fun e0 => Exists.intro [] (And.intro rfl (And.intro trivial (be e0)))
    exact lf1 h fun e0 => Exists.intro [] (And.intro rfl (And.intro trivial (be e0)))
  exact lf1 h fun e0 => Exists.intro [] (And.intro rfl (And.intro trivial (be e0)))
theorem con_i_BooksRead {a0 : (List UInt8)} {r0 : (List MAccount)} {r1 : (List MInstr)} {r2 : (List MBal)} {r3 : (List MLot)} {r4 : (List MTrade)} {r5 : Int} {r6 : Bool} (h : i_BooksRead a0 = some (r0, r1, r2, r3, r4, r5, r6)) : Con Tryz.prog 33 [.sl 1 (List.map u8 a0)] [] (.tup [.agg [.own 0, .own 1, .own 2, .own 3, .own 4, .i .i64 r5], .p (r6 = true)]) [some (.arr 2 (List.map MAccount.av r0)), some (.arr 2 (List.map MInstr.av r1)), some (.arr 3 (List.map MBal.av r2)), some (.arr 5 (List.map MLot.av r3)), some (.arr 8 (List.map MTrade.av r4))] := by
  refine con_of_awpF hT mixed (fn := Tryz.f33) Tryz.func33 rfl rfl ?_
  unfold i_BooksRead at h
  refine CK.call false [64] h (fun _ h => con_i_numReader_many h) (And.intro rfl (And.intro rfl trivial)) (And.intro (And.intro rfl (And.intro rfl (And.intro Iff.rfl trivial))) trivial) rfl (fun _ => rfl) (fun _ => Or.inl rfl) (fun y1 h2 h => ?_)
  refine LP.fuel (g := i_BooksRead_L1 a0 y1 _) (fun (v9, v10, v11, v12) => ⟨[(0, .sl 1 (List.map u8 a0)), (2, .ptr 0 0), (4, .ptr 1 0), (5, .ptr 2 0), (14, .i .i64 y1.1), (15, .i .i64 v12), (98, .tup []), (99, .tup []), (100, .tup []), (101, .tup []), (102, .tup []), (103, .tup []), (104, .tup []), (107, .tup []), (108, .tup []), (109, .tup [])], [some (.box [.nil, .nil, .nil, .nil, .nil, .i .i64 ((0 : Int))]), some (.box [.sl 1 (List.map u8 a0), .i .i64 v9, .p (v10 = true)]), some (.box [.own 3, .nil, .nil, .nil, .nil, .i .i64 ((0 : Int))]), some (.arr 2 (List.map MAccount.av v11))]⟩) h (fun _ h => by cases h) ?_ ?_
  · exact Exists.intro [.id 0, .id 64, .id 112, .nl] (And.intro rfl (And.intro (And.intro (And.intro trivial (And.intro trivial (And.intro trivial (And.intro trivial (And.intro trivial (And.intro rfl trivial)))))) (And.intro (And.intro rfl (And.intro rfl (And.intro Iff.rfl trivial))) (And.intro (And.intro trivial (And.intro trivial (And.intro trivial (And.intro trivial (And.intro trivial (And.intro rfl trivial)))))) (And.intro rfl trivial)))) (And.intro rfl (And.intro trivial (And.intro trivial (And.intro trivial (And.intro rfl (And.intro rfl (And.intro trivial (And.intro trivial (And.intro trivial (And.intro trivial (And.intro trivial (And.intro trivial (And.intro trivial (And.intro trivial (And.intro trivial (And.intro trivial trivial))))))))))))))))))
  intro n v h
  obtain ⟨v9, v10, v11, v12⟩ := v
  rw [i_BooksRead_L1.eq_2] at h
  refine PS.ite h (fun h13 h => ?_) (fun h13 h => ?_)
  · refine CK.call false [1] h (fun _ h => con_i_numReader_one h) (And.intro rfl trivial) (And.intro (And.intro rfl (And.intro rfl (And.intro Iff.rfl trivial))) trivial) rfl (fun _ => rfl) (fun _ => Or.inl rfl) (fun y14 h15 h => ?_)
    refine CK.call false [1] h (fun _ h => con_i_numReader_one h) (And.intro rfl trivial) (And.intro (And.intro rfl (And.intro rfl (And.intro Iff.rfl trivial))) trivial) rfl (fun _ => rfl) (fun _ => Or.inl rfl) (fun y16 h17 h => ?_)
    refine RN.to (List.map MAccount.av [(MAccount.mk y14.1 y16.1)]) rfl ?_
    refine OB.app (enc := MAccount.av) (l := [(MAccount.mk y14.1 y16.1)]) rfl (fun _ => rfl) h (fun h18 h => ?_)
    refine RN.to (List.map MAccount.av (v11 ++ [(MAccount.mk y14.1 y16.1)])) List.map_append.symm ?_
    refine OB.mk (by kernel_rfl) ?_
    refine NX.next h ?_
    exact Exists.intro [.id 0, .id 1, .id 2, .id 180] (And.intro rfl (And.intro (And.intro (And.intro trivial (And.intro trivial (And.intro trivial (And.intro trivial (And.intro trivial (And.intro rfl trivial)))))) (And.intro (And.intro rfl (And.intro rfl (And.intro Iff.rfl trivial))) (And.intro (And.intro trivial (And.intro trivial (And.intro trivial (And.intro trivial (And.intro trivial (And.intro rfl trivial)))))) (And.intro rfl trivial)))) (And.intro rfl (And.intro trivial (And.intro trivial (And.intro trivial (And.intro rfl (And.intro rfl (And.intro trivial (And.intro trivial (And.intro trivial (And.intro trivial (And.intro trivial (And.intro trivial (And.intro trivial (And.intro trivial (And.intro trivial (And.intro trivial trivial))))))))))))))))))
  refine CK.call false [1] h (fun _ h => con_i_numReader_many h) (And.intro rfl (And.intro rfl trivial)) (And.intro (And.intro rfl (And.intro rfl (And.intro Iff.rfl trivial))) trivial) rfl (fun _ => rfl) (fun _ => Or.inl rfl) (fun y22 h23 h => ?_)
  refine LP.fuel (g := i_BooksRead_L2 a0 y22 _) (fun (v30, v31, v32, v33) => ⟨[(0, .sl 1 (List.map u8 a0)), (2, .ptr 0 0), (4, .ptr 1 0), (5, .ptr 2 0), (30, .i .i64 y22.1), (31, .i .i64 v33), (98, .tup []), (99, .tup []), (100, .tup []), (101, .tup []), (102, .tup []), (103, .tup []), (104, .tup []), (107, .tup []), (108, .tup []), (109, .tup [])], [some (.box [.nil, .nil, .nil, .nil, .nil, .i .i64 ((0 : Int))]), some (.box [.sl 1 (List.map u8 a0), .i .i64 v30, .p (v31 = true)]), some (.box [.own 3, .own 4, .nil, .nil, .nil, .i .i64 ((0 : Int))]), some (.arr 2 (List.map MAccount.av v11)), some (.arr 2 (List.map MInstr.av v32))]⟩) h (fun _ h => by cases h) ?_ ?_
  · exact Exists.intro [.id 0, .id 1, .id 2, .id 3, .nl] (And.intro rfl (And.intro (And.intro (And.intro trivial (And.intro trivial (And.intro trivial (And.intro trivial (And.intro trivial (And.intro rfl trivial)))))) (And.intro (And.intro rfl (And.intro rfl (And.intro Iff.rfl trivial))) (And.intro (And.intro trivial (And.intro trivial (And.intro trivial (And.intro trivial (And.intro trivial (And.intro rfl trivial)))))) (And.intro rfl (And.intro rfl trivial))))) (And.intro rfl (And.intro trivial (And.intro trivial (And.intro trivial (And.intro rfl (And.intro rfl (And.intro trivial (And.intro trivial (And.intro trivial (And.intro trivial (And.intro trivial (And.intro trivial (And.intro trivial (And.intro trivial (And.intro trivial (And.intro trivial trivial))))))))))))))))))
  intro n v h
  obtain ⟨v30, v31, v32, v33⟩ := v
  rw [i_BooksRead_L2.eq_2] at h
  refine PS.ite h (fun h34 h => ?_) (fun h34 h => ?_)
  · refine CK.call false [1] h (fun _ h => con_i_numReader_one h) (And.intro rfl trivial) (And.intro (And.intro rfl (And.intro rfl (And.intro Iff.rfl trivial))) trivial) rfl (fun _ => rfl) (fun _ => Or.inl rfl) (fun y35 h36 h => ?_)
    refine CK.call false [1] h (fun _ h => con_i_numReader_one h) (And.intro rfl trivial) (And.intro (And.intro rfl (And.intro rfl (And.intro Iff.rfl trivial))) trivial) rfl (fun _ => rfl) (fun _ => Or.inl rfl) (fun y37 h38 h => ?_)
    refine RN.to (List.map MInstr.av [(MInstr.mk y35.1 y37.1)]) rfl ?_
    refine OB.app (enc := MInstr.av) (l := [(MInstr.mk y35.1 y37.1)]) rfl (fun _ => rfl) h (fun h39 h => ?_)
    refine RN.to (List.map MInstr.av (v32 ++ [(MInstr.mk y35.1 y37.1)])) List.map_append.symm ?_
    refine OB.mk (by kernel_rfl) ?_
    refine NX.next h ?_
    exact Exists.intro [.id 0, .id 1, .id 2, .id 3, .id 181] (And.intro rfl (And.intro (And.intro (And.intro trivial (And.intro trivial (And.intro trivial (And.intro trivial (And.intro trivial (And.intro rfl trivial)))))) (And.intro (And.intro rfl (And.intro rfl (And.intro Iff.rfl trivial))) (And.intro (And.intro trivial (And.intro trivial (And.intro trivial (And.intro trivial (And.intro trivial (And.intro rfl trivial)))))) (And.intro rfl (And.intro rfl trivial))))) (And.intro rfl (And.intro trivial (And.intro trivial (And.intro trivial (And.intro rfl (And.intro rfl (And.intro trivial (And.intro trivial (And.intro trivial (And.intro trivial (And.intro trivial (And.intro trivial (And.intro trivial (And.intro trivial (And.intro trivial (And.intro trivial trivial))))))))))))))))))
  refine CK.call false [1] h (fun _ h => con_i_numReader_many h) (And.intro rfl (And.intro rfl trivial)) (And.intro (And.intro rfl (And.intro rfl (And.intro Iff.rfl trivial))) trivial) rfl (fun _ => rfl) (fun _ => Or.inl rfl) (fun y43 h44 h => ?_)
  refine LP.fuel (g := i_BooksRead_L3 a0 y43 _) (fun (v53, v54, v55, v56) => ⟨[(0, .sl 1 (List.map u8 a0)), (2, .ptr 0 0), (4, .ptr 1 0), (5, .ptr 2 0), (46, .i .i64 y43.1), (47, .i .i64 v56), (98, .tup []), (99, .tup []), (100, .tup []), (101, .tup []), (102, .tup []), (103, .tup []), (104, .tup []), (107, .tup []), (108, .tup []), (109, .tup [])], [some (.box [.nil, .nil, .nil, .nil, .nil, .i .i64 ((0 : Int))]), some (.box [.sl 1 (List.map u8 a0), .i .i64 v53, .p (v54 = true)]), some (.box [.own 3, .own 4, .own 5, .nil, .nil, .i .i64 ((0 : Int))]), some (.arr 2 (List.map MAccount.av v11)), some (.arr 2 (List.map MInstr.av v32)), some (.arr 3 (List.map MBal.av v55))]⟩) h (fun _ h => by cases h) ?_ ?_
  · exact Exists.intro [.id 0, .id 1, .id 2, .id 3, .id 4, .nl] (And.intro rfl (And.intro (And.intro (And.intro trivial (And.intro trivial (And.intro trivial (And.intro trivial (And.intro trivial (And.intro rfl trivial)))))) (And.intro (And.intro rfl (And.intro rfl (And.intro Iff.rfl trivial))) (And.intro (And.intro trivial (And.intro trivial (And.intro trivial (And.intro trivial (And.intro trivial (And.intro rfl trivial)))))) (And.intro rfl (And.intro rfl (And.intro rfl trivial)))))) (And.intro rfl (And.intro trivial (And.intro trivial (And.intro trivial (And.intro rfl (And.intro rfl (And.intro trivial (And.intro trivial (And.intro trivial (And.intro trivial (And.intro trivial (And.intro trivial (And.intro trivial (And.intro trivial (And.intro trivial (And.intro trivial trivial))))))))))))))))))
  intro n v h
  obtain ⟨v53, v54, v55, v56⟩ := v
  rw [i_BooksRead_L3.eq_2] at h
  refine PS.ite h (fun h57 h => ?_) (fun h57 h => ?_)
  · refine CK.call false [1] h (fun _ h => con_i_numReader_one h) (And.intro rfl trivial) (And.intro (And.intro rfl (And.intro rfl (And.intro Iff.rfl trivial))) trivial) rfl (fun _ => rfl) (fun _ => Or.inl rfl) (fun y58 h59 h => ?_)
    refine CK.call false [1] h (fun _ h => con_i_numReader_one h) (And.intro rfl trivial) (And.intro (And.intro rfl (And.intro rfl (And.intro Iff.rfl trivial))) trivial) rfl (fun _ => rfl) (fun _ => Or.inl rfl) (fun y60 h61 h => ?_)
    refine CK.call false [1] h (fun _ h => con_i_numReader_one h) (And.intro rfl trivial) (And.intro (And.intro rfl (And.intro rfl (And.intro Iff.rfl trivial))) trivial) rfl (fun _ => rfl) (fun _ => Or.inl rfl) (fun y62 h63 h => ?_)
    refine RN.to (List.map MBal.av [(MBal.mk y58.1 y60.1 (w64 (y62.1 - (1000000000000000 : Int))))]) rfl ?_
    refine OB.app (enc := MBal.av) (l := [(MBal.mk y58.1 y60.1 (w64 (y62.1 - (1000000000000000 : Int))))]) rfl (fun _ => rfl) h (fun h64 h => ?_)
    refine RN.to (List.map MBal.av (v55 ++ [(MBal.mk y58.1 y60.1 (w64 (y62.1 - (1000000000000000 : Int))))])) List.map_append.symm ?_
    refine NX.next h ?_
    exact Exists.intro [.id 0, .id 1, .id 2, .id 3, .id 4, .id 310] (And.intro rfl (And.intro (And.intro (And.intro trivial (And.intro trivial (And.intro trivial (And.intro trivial (And.intro trivial (And.intro rfl trivial)))))) (And.intro (And.intro rfl (And.intro rfl (And.intro Iff.rfl trivial))) (And.intro (And.intro trivial (And.intro trivial (And.intro trivial (And.intro trivial (And.intro trivial (And.intro rfl trivial)))))) (And.intro rfl (And.intro rfl (And.intro rfl trivial)))))) (And.intro rfl (And.intro trivial (And.intro trivial (And.intro trivial (And.intro rfl (And.intro rfl (And.intro trivial (And.intro trivial (And.intro trivial (And.intro trivial (And.intro trivial (And.intro trivial (And.intro trivial (And.intro trivial (And.intro trivial (And.intro trivial trivial))))))))))))))))))
  refine CK.call false [1] h (fun _ h => con_i_numReader_many h) (And.intro rfl (And.intro rfl trivial)) (And.intro (And.intro rfl (And.intro rfl (And.intro Iff.rfl trivial))) trivial) rfl (fun _ => rfl) (fun _ => Or.inl rfl) (fun y68 h69 h => ?_)
  refine LP.fuel (g := i_BooksRead_L4 a0 y68 _) (fun (v74, v75, v76, v77) => ⟨[(0, .sl 1 (List.map u8 a0)), (2, .ptr 0 0), (4, .ptr 1 0), (5, .ptr 2 0), (67, .i .i64 y68.1), (68, .i .i64 v77), (98, .tup []), (99, .tup []), (100, .tup []), (101, .tup []), (102, .tup []), (103, .tup []), (104, .tup []), (107, .tup []), (108, .tup []), (109, .tup [])], [some (.box [.nil, .nil, .nil, .nil, .nil, .i .i64 ((0 : Int))]), some (.box [.sl 1 (List.map u8 a0), .i .i64 v74, .p (v75 = true)]), some (.box [.own 3, .own 4, .own 5, .own 6, .nil, .i .i64 ((0 : Int))]), some (.arr 2 (List.map MAccount.av v11)), some (.arr 2 (List.map MInstr.av v32)), some (.arr 3 (List.map MBal.av v55)), some (.arr 5 (List.map MLot.av v76))]⟩) h (fun _ h => by cases h) ?_ ?_
  · exact Exists.intro [.id 0, .id 1, .id 2, .id 3, .id 4, .id 5, .nl] (And.intro rfl (And.intro (And.intro (And.intro trivial (And.intro trivial (And.intro trivial (And.intro trivial (And.intro trivial (And.intro rfl trivial)))))) (And.intro (And.intro rfl (And.intro rfl (And.intro Iff.rfl trivial))) (And.intro (And.intro trivial (And.intro trivial (And.intro trivial (And.intro trivial (And.intro trivial (And.intro rfl trivial)))))) (And.intro rfl (And.intro rfl (And.intro rfl (And.intro rfl trivial))))))) (And.intro rfl (And.intro trivial (And.intro trivial (And.intro trivial (And.intro rfl (And.intro rfl (And.intro trivial (And.intro trivial (And.intro trivial (And.intro trivial (And.intro trivial (And.intro trivial (And.intro trivial (And.intro trivial (And.intro trivial (And.intro trivial trivial))))))))))))))))))
  intro n v h
  obtain ⟨v74, v75, v76, v77⟩ := v
  rw [i_BooksRead_L4.eq_2] at h
  refine PS.ite h (fun h78 h => ?_) (fun h78 h => ?_)
  · refine CK.call false [1] h (fun _ h => con_i_numReader_lot h) (And.intro rfl trivial) (And.intro (And.intro rfl (And.intro rfl (And.intro Iff.rfl trivial))) trivial) rfl (fun _ => rfl) (fun _ => Or.inl rfl) (fun y79 h80 h => ?_)
    refine RN.to (List.map MLot.av [(MLot.mk y79.1 y79.2.1 y79.2.2.1 y79.2.2.2.1 y79.2.2.2.2.1)]) rfl ?_
    refine OB.app (enc := MLot.av) (l := [(MLot.mk y79.1 y79.2.1 y79.2.2.1 y79.2.2.2.1 y79.2.2.2.2.1)]) rfl (fun _ => rfl) h (fun h81 h => ?_)
    refine RN.to (List.map MLot.av (v76 ++ [(MLot.mk y79.1 y79.2.1 y79.2.2.1 y79.2.2.2.1 y79.2.2.2.2.1)])) List.map_append.symm ?_
    refine OB.mk (by kernel_rfl) ?_
    refine NX.next h ?_
    exact Exists.intro [.id 0, .id 1, .id 2, .id 3, .id 4, .id 5, .id 103] (And.intro rfl (And.intro (And.intro (And.intro trivial (And.intro trivial (And.intro trivial (And.intro trivial (And.intro trivial (And.intro rfl trivial)))))) (And.intro (And.intro rfl (And.intro rfl (And.intro Iff.rfl trivial))) (And.intro (And.intro trivial (And.intro trivial (And.intro trivial (And.intro trivial (And.intro trivial (And.intro rfl trivial)))))) (And.intro rfl (And.intro rfl (And.intro rfl (And.intro rfl trivial))))))) (And.intro rfl (And.intro trivial (And.intro trivial (And.intro trivial (And.intro rfl (And.intro rfl (And.intro trivial (And.intro trivial (And.intro trivial (And.intro trivial (And.intro trivial (And.intro trivial (And.intro trivial (And.intro trivial (And.intro trivial (And.intro trivial trivial))))))))))))))))))
  refine CK.call false [1] h (fun _ h => con_i_numReader_many h) (And.intro rfl (And.intro rfl trivial)) (And.intro (And.intro rfl (And.intro rfl (And.intro Iff.rfl trivial))) trivial) rfl (fun _ => rfl) (fun _ => Or.inl rfl) (fun y85 h86 h => ?_)
  refine LP.fuel (g := i_BooksRead_L5 a0 y85 _) (fun (v91, v92, v93, v94) => ⟨[(0, .sl 1 (List.map u8 a0)), (2, .ptr 0 0), (4, .ptr 1 0), (5, .ptr 2 0), (79, .i .i64 y85.1), (80, .i .i64 v94), (98, .tup []), (99, .tup []), (100, .tup []), (101, .tup []), (102, .tup []), (103, .tup []), (104, .tup []), (107, .tup []), (108, .tup []), (109, .tup [])], [some (.box [.nil, .nil, .nil, .nil, .nil, .i .i64 ((0 : Int))]), some (.box [.sl 1 (List.map u8 a0), .i .i64 v91, .p (v92 = true)]), some (.box [.own 3, .own 4, .own 5, .own 6, .own 7, .i .i64 ((0 : Int))]), some (.arr 2 (List.map MAccount.av v11)), some (.arr 2 (List.map MInstr.av v32)), some (.arr 3 (List.map MBal.av v55)), some (.arr 5 (List.map MLot.av v76)), some (.arr 8 (List.map MTrade.av v93))]⟩) h (fun _ h => by cases h) ?_ ?_
  · exact Exists.intro [.id 0, .id 1, .id 2, .id 3, .id 4, .id 5, .id 6, .nl] (And.intro rfl (And.intro (And.intro (And.intro trivial (And.intro trivial (And.intro trivial (And.intro trivial (And.intro trivial (And.intro rfl trivial)))))) (And.intro (And.intro rfl (And.intro rfl (And.intro Iff.rfl trivial))) (And.intro (And.intro trivial (And.intro trivial (And.intro trivial (And.intro trivial (And.intro trivial (And.intro rfl trivial)))))) (And.intro rfl (And.intro rfl (And.intro rfl (And.intro rfl (And.intro rfl trivial)))))))) (And.intro rfl (And.intro trivial (And.intro trivial (And.intro trivial (And.intro rfl (And.intro rfl (And.intro trivial (And.intro trivial (And.intro trivial (And.intro trivial (And.intro trivial (And.intro trivial (And.intro trivial (And.intro trivial (And.intro trivial (And.intro trivial trivial))))))))))))))))))
  intro n v h
  obtain ⟨v91, v92, v93, v94⟩ := v
  rw [i_BooksRead_L5.eq_2] at h
  refine PS.ite h (fun h95 h => ?_) (fun h95 h => ?_)
  · refine CK.call false [1] h (fun _ h => con_i_numReader_trade h) (And.intro rfl trivial) (And.intro (And.intro rfl (And.intro rfl (And.intro Iff.rfl trivial))) trivial) rfl (fun _ => rfl) (fun _ => Or.inl rfl) (fun y96 h97 h => ?_)
    refine RN.to (List.map MTrade.av [(MTrade.mk y96.1 y96.2.1 y96.2.2.1 y96.2.2.2.1 y96.2.2.2.2.1 y96.2.2.2.2.2.1 y96.2.2.2.2.2.2.1 y96.2.2.2.2.2.2.2.1)]) rfl ?_
    refine OB.app (enc := MTrade.av) (l := [(MTrade.mk y96.1 y96.2.1 y96.2.2.1 y96.2.2.2.1 y96.2.2.2.2.1 y96.2.2.2.2.2.1 y96.2.2.2.2.2.2.1 y96.2.2.2.2.2.2.2.1)]) rfl (fun _ => rfl) h (fun h98 h => ?_)
    refine RN.to (List.map MTrade.av (v93 ++ [(MTrade.mk y96.1 y96.2.1 y96.2.2.1 y96.2.2.2.1 y96.2.2.2.2.1 y96.2.2.2.2.2.1 y96.2.2.2.2.2.2.1 y96.2.2.2.2.2.2.2.1)])) List.map_append.symm ?_
    refine OB.mk (by kernel_rfl) ?_
    refine NX.next h ?_
    exact Exists.intro [.id 0, .id 1, .id 2, .id 3, .id 4, .id 5, .id 6, .id 104] (And.intro rfl (And.intro (And.intro (And.intro trivial (And.intro trivial (And.intro trivial (And.intro trivial (And.intro trivial (And.intro rfl trivial)))))) (And.intro (And.intro rfl (And.intro rfl (And.intro Iff.rfl trivial))) (And.intro (And.intro trivial (And.intro trivial (And.intro trivial (And.intro trivial (And.intro trivial (And.intro rfl trivial)))))) (And.intro rfl (And.intro rfl (And.intro rfl (And.intro rfl (And.intro rfl trivial)))))))) (And.intro rfl (And.intro trivial (And.intro trivial (And.intro trivial (And.intro rfl (And.intro rfl (And.intro trivial (And.intro trivial (And.intro trivial (And.intro trivial (And.intro trivial (And.intro trivial (And.intro trivial (And.intro trivial (And.intro trivial (And.intro trivial trivial))))))))))))))))))
  refine CK.call false [1] h (fun _ h => con_i_numReader_one h) (And.intro rfl trivial) (And.intro (And.intro rfl (And.intro rfl (And.intro Iff.rfl trivial))) trivial) rfl (fun _ => rfl) (fun _ => Or.inl rfl) (fun y102 h103 h => ?_)
  refine PS.ite h (fun h104 h => ?_) (fun h104 h => ?_)
  · exact lf7 h fun e0 e1 e2 e3 e4 e5 e6 => Exists.intro [.nl, .nl, .nl, .nl, .nl] (And.intro rfl (And.intro (And.intro (mpn e0) (And.intro (mpn e1) (And.intro (mpn e2) (And.intro (mpn e3) (And.intro (mpn e4) trivial))))) (And.intro (And.intro trivial (And.intro trivial (And.intro trivial (And.intro trivial (And.intro trivial (And.intro e5 trivial)))))) (And.intro (be e6) trivial))))
  refine HY.mk (fun _ => ?_)
  refine PS.ite h (fun h105 h => ?_) (fun h105 h => ?_)
  · exact lf7 h fun e0 e1 e2 e3 e4 e5 e6 => Exists.intro [.nl, .nl, .nl, .nl, .nl] (And.intro rfl (And.intro (And.intro (mpn e0) (And.intro (mpn e1) (And.intro (mpn e2) (And.intro (mpn e3) (And.intro (mpn e4) trivial))))) (And.intro (And.intro trivial (And.intro trivial (And.intro trivial (And.intro trivial (And.intro trivial (And.intro e5 trivial)))))) (And.intro (be e6) trivial))))
  refine CK.call false [] h (fun _ h => con_i_BooksOk h) (And.intro (And.intro rfl (And.intro rfl (And.intro rfl (And.intro rfl (And.intro rfl (And.intro rfl trivial)))))) trivial) trivial rfl (fun _ => rfl) (fun _ => Or.inr (Flat.mk rfl trivial)) (fun y106 h107 h => ?_)
  refine PS.ite h (fun h108 h => ?_) (fun h108 h => ?_)
  · exact lf7 h fun e0 e1 e2 e3 e4 e5 e6 => Exists.intro [.nl, .nl, .nl, .nl, .nl] (And.intro rfl (And.intro (And.intro (mpn e0) (And.intro (mpn e1) (And.intro (mpn e2) (And.intro (mpn e3) (And.intro (mpn e4) trivial))))) (And.intro (And.intro trivial (And.intro trivial (And.intro trivial (And.intro trivial (And.intro trivial (And.intro e5 trivial)))))) (And.intro (be e6) trivial))))
  exact lf7 h fun e0 e1 e2 e3 e4 e5 e6 => Exists.intro [.id 3, .id 4, .id 5, .id 6, .id 7] (And.intro rfl (And.intro (And.intro (mpe e0) (And.intro (mpe e1) (And.intro (mpe e2) (And.intro (mpe e3) (And.intro (mpe e4) trivial))))) (And.intro (And.intro trivial (And.intro trivial (And.intro trivial (And.intro trivial (And.intro trivial (And.intro e5 trivial)))))) (And.intro (be e6) trivial))))
theorem con_i_PutNums_c1 {a0 : Int} {r0 : Bool} (h : i_PutNums_c1 a0 = some r0) : Con Tryz.prog 185 [.i .i64 a0] [] (.p (r0 = true)) [] := by
  refine con_of_awpF hT mixed (fn := Tryz.f185) Tryz.func185 rfl rfl ?_
  unfold i_PutNums_c1 at h
  exact lf1 h fun e0 => Exists.intro [] (And.intro rfl (And.intro trivial (pqe e0)))
theorem con_g_IndexFunc_int {a0 : (List Int)} {r0 : Int} (h : g_IndexFunc_int a0 = some r0) : Con Tryz.prog 197 [.sl 1 (List.map iv a0), .fn (.func 185) [] []] [] (.i .i64 r0) [] := by
  refine con_of_awpF hT mixed (fn := Tryz.f197) Tryz.func197 rfl rfl ?_
  unfold g_IndexFunc_int at h
  refine HY.mk (fun _ => ?_)
  refine LP.fuel (g := g_IndexFunc_int_L1 a0 _) (fun v8 => ⟨[(0, .sl 1 (List.map iv a0)), (1, .fn (.func 185) [] []), (7, .i .i64 ((ln (List.map iv a0)))), (8, .i .i64 v8)], []⟩) h (fun _ h => by cases h) ?_ ?_
  · exact Exists.intro [] (And.intro rfl (And.intro trivial (And.intro rfl (And.intro (And.intro rfl (And.intro rfl rfl)) (And.intro rfl (And.intro rfl trivial))))))
  intro n v8 h
  rw [g_IndexFunc_int_L1.eq_2] at h
  refine PS.ite h (fun h9 h => ?_) (fun h9 h => ?_)
  · refine OB.grd h (fun h10 h => ?_)
    refine EX.get h (fun x11 h12 h => ?_)
    refine CK.call false [] h (fun _ h => con_i_PutNums_c1 h) (And.intro rfl trivial) trivial rfl (fun _ => rfl) (fun _ => Or.inl rfl) (fun y13 h14 h => ?_)
    refine PS.ite h (fun h15 h => ?_) (fun h15 h => ?_)
    · exact lf1 h fun e0 => Exists.intro [] (And.intro rfl (And.intro trivial e0))
    refine NX.next h ?_
    exact Exists.intro [] (And.intro rfl (And.intro trivial (And.intro rfl (And.intro (And.intro rfl (And.intro rfl rfl)) (And.intro rfl (And.intro rfl trivial))))))
  exact lf1 h fun e0 => Exists.intro [] (And.intro rfl (And.intro trivial e0))
theorem con_g_ContainsFunc_int {a0 : (List Int)} {r0 : Bool} (h : g_ContainsFunc_int a0 = some r0) : Con Tryz.prog 184 [.sl 1 (List.map iv a0), .fn (.func 185) [] []] [] (.p (r0 = true)) [] := by
  refine con_of_awpF hT mixed (fn := Tryz.f184) Tryz.func184 rfl rfl ?_
  unfold g_ContainsFunc_int at h
  refine CK.call false [] h (fun _ h => con_g_IndexFunc_int h) (And.intro rfl (And.intro (And.intro rfl (And.intro trivial trivial)) trivial)) trivial rfl (fun _ => rfl) (fun _ => Or.inl rfl) (fun y1 h2 h => ?_)
  exact lf1 h fun e0 => Exists.intro [] (And.intro rfl (And.intro trivial (pqe e0)))
theorem con_i_PutNum {a0 : Int} {r0 : (List UInt8)} (h : i_PutNum a0 = some r0) : Con Tryz.prog 77 [.i .i64 a0] [] (.own 0) [some (.arr 1 (List.map u8 r0))] := by
  refine con_of_awpF hT mixed (fn := Tryz.f77) Tryz.func77 rfl rfl ?_
  unfold i_PutNum at h
  refine PS.ite h (fun h1 h => ?_) (fun h1 h => ?_)
  · exact lf1 h fun e0 => Exists.intro [.nl] (And.intro rfl (And.intro (And.intro (mpn e0) trivial) trivial))
  refine RN.to (List.map u8 ([] : List UInt8)) rfl ?_
  refine LP.fuel (g := i_PutNum_L1 _) (fun (v4, v5) => ⟨[(0, .i .i64 v4), (3, .own 0)], [some (.arr 1 (List.map u8 v5))]⟩) h (fun _ h => by cases h) ?_ ?_
  · exact Exists.intro [.id 48] (And.intro rfl (And.intro (And.intro rfl trivial) (And.intro rfl (And.intro trivial trivial))))
  intro n v h
  obtain ⟨v4, v5⟩ := v
  rw [i_PutNum_L1.eq_2] at h
  refine PS.ite h (fun h6 h => ?_) (fun h6 h => ?_)
  · refine RN.to (List.map u8 [(byteOf (bor .i64 (band .i64 v4 (127 : Int)) (128 : Int)))]) ((consE (u8_of _) rfl)) ?_
    refine OB.app (enc := u8) (l := [(byteOf (bor .i64 (band .i64 v4 (127 : Int)) (128 : Int)))]) rfl (fun _ => rfl) h (fun h7 h => ?_)
    refine RN.to (List.map u8 (v5 ++ [(byteOf (bor .i64 (band .i64 v4 (127 : Int)) (128 : Int)))])) List.map_append.symm ?_
    refine NX.next h ?_
    exact Exists.intro [.id 129] (And.intro rfl (And.intro (And.intro rfl trivial) (And.intro rfl (And.intro trivial trivial))))
  refine RN.to (List.map u8 [(byteOf v4)]) ((consE (u8_of _) rfl)) ?_
  refine OB.app (enc := u8) (l := [(byteOf v4)]) rfl (fun _ => rfl) h (fun h10 h => ?_)
  refine RN.to (List.map u8 (v5 ++ [(byteOf v4)])) List.map_append.symm ?_
  exact lf1 h fun e0 => Exists.intro [.id 97] (And.intro rfl (And.intro (And.intro (mpe e0) trivial) trivial))
theorem con_i_PutNums {a0 : (List Int)} {r0 : (List UInt8)} (h : i_PutNums a0 = some r0) : Con Tryz.prog 143 [.sl 1 (List.map iv a0)] [] (.own 0) [some (.arr 1 (List.map u8 r0))] := by
  refine con_of_awpF hT mixed (fn := Tryz.f143) Tryz.func143 rfl rfl ?_
  unfold i_PutNums at h
  refine CK.call false [] h (fun _ h => con_g_ContainsFunc_int h) (And.intro rfl (And.intro (And.intro rfl (And.intro trivial trivial)) trivial)) trivial rfl (fun _ => rfl) (fun _ => Or.inl rfl) (fun y1 h2 h => ?_)
  refine PS.ite h (fun h3 h => ?_) (fun h3 h => ?_)
  · exact lf1 h fun e0 => Exists.intro [.nl] (And.intro rfl (And.intro (And.intro (mpn e0) trivial) trivial))
  refine RN.to (List.map u8 ([] : List UInt8)) rfl ?_
  refine HY.mk (fun _ => ?_)
  refine LP.fuel (g := i_PutNums_L1 a0 _) (fun (v11, v12) => ⟨[(3, .own 0), (9, .sl 1 (List.map iv a0)), (10, .i .i64 ((ln (List.map iv a0)))), (11, .i .i64 v12)], [some (.arr 1 (List.map u8 v11))]⟩) h (fun _ h => by cases h) ?_ ?_
  · exact Exists.intro [.id 48] (And.intro rfl (And.intro (And.intro rfl trivial) (And.intro trivial (And.intro rfl (And.intro rfl (And.intro rfl trivial))))))
  intro n v h
  obtain ⟨v11, v12⟩ := v
  rw [i_PutNums_L1.eq_2] at h
  refine PS.ite h (fun h13 h => ?_) (fun h13 h => ?_)
  · refine OB.grd h (fun h14 h => ?_)
    refine EX.get h (fun x15 h16 h => ?_)
    refine CK.call false [] h (fun _ h => con_i_PutNum h) (And.intro rfl trivial) trivial rfl (fun _ => rfl) (fun _ => Or.inl rfl) (fun y17 h18 h => ?_)
    refine RN.mk ?_
    refine OB.app (enc := u8) (l := y17) rfl (fun _ => rfl) h (fun h19 h => ?_)
    refine RN.to (List.map u8 (v11 ++ y17)) List.map_append.symm ?_
    refine NX.next h ?_
    exact Exists.intro [.id 113] (And.intro rfl (And.intro (And.intro rfl trivial) (And.intro trivial (And.intro rfl (And.intro rfl (And.intro rfl trivial))))))
  exact lf1 h fun e0 => Exists.intro [.id 0] (And.intro rfl (And.intro (And.intro (mpe e0) trivial) trivial))

end Go.Proofs.YtbknlijpkabcnaaGreat.K
