/- The functions of the program compute the plain functions. No condition. -/
import Derived.Test.YtbknlijpkabcnaaGreatA1W2
namespace Go.Proofs.YtbknlijpkabcnaaGreat.K
set_option linter.all false
open Go

set_option maxRecDepth 20000
set_option maxHeartbeats 4000000

theorem con_l_markLotS {a0 : (List MLot)} {a1 : Int} {r0 : Int} {r1 : (List MLot)} (h : l_markLotS a0 a1 = some (r0, r1)) : Con Tryz.prog 88 [.own 0, .i .i64 a1] [.arr 5 (List.map MLot.av a0)] (.i .i64 r0) [some (.arr 5 (List.map MLot.av r1))] := by
  refine con_of_awpF hT mixed (fn := Tryz.f88) Tryz.func88 rfl rfl ?_
  unfold l_markLotS at h
  refine LP.fuel (g := l_markLotS_L1 _) (fun (v17, v18, v19) => ⟨[(0, .own 0), (1, .i .i64 v18), (5, .i .i64 v19)], [some (.arr 5 (List.map MLot.av v17))]⟩) h (fun _ h => by cases h) ?_ ?_
  · exact Exists.intro [.id 0] (And.intro rfl (And.intro (And.intro rfl trivial) (And.intro trivial (And.intro rfl (And.intro rfl trivial)))))
  intro n v h
  obtain ⟨v17, v18, v19⟩ := v
  rw [l_markLotS_L1.eq_2] at h
  refine HY.mk (fun _ => ?_)
  refine PS.ite h (fun h20 h => ?_) (fun h20 h => ?_)
  · refine OB.grd h (fun h21 h => ?_)
    refine EX.get h (fun x22 h23 h => ?_)
    refine RN.to (List.map MLot.av (List.set v17 (Int.toNat v19) (MLot.mk v18 x22.Instr x22.No x22.Qty x22.Cost))) (set_map rfl) ?_
    refine OB.grd h (fun h24 h => ?_)
    refine EX.get h (fun x25 h26 h => ?_)
    refine RN.to (List.map MLot.av (List.set (List.set v17 (Int.toNat v19) (MLot.mk v18 x22.Instr x22.No x22.Qty x22.Cost)) (Int.toNat v19) (MLot.mk x25.Account (w64 (v18 + (1 : Int))) x25.No x25.Qty x25.Cost))) (set_map rfl) ?_
    refine OB.grd h (fun h27 h => ?_)
    refine EX.get h (fun x28 h29 h => ?_)
    refine RN.to (List.map MLot.av (List.set (List.set (List.set v17 (Int.toNat v19) (MLot.mk v18 x22.Instr x22.No x22.Qty x22.Cost)) (Int.toNat v19) (MLot.mk x25.Account (w64 (v18 + (1 : Int))) x25.No x25.Qty x25.Cost)) (Int.toNat v19) (MLot.mk x28.Account x28.Instr (w64 ((w64 (v18 + (1 : Int))) + (1 : Int))) x28.Qty x28.Cost))) (set_map rfl) ?_
    refine OB.grd h (fun h30 h => ?_)
    refine EX.get h (fun x31 h32 h => ?_)
    refine RN.to (List.map MLot.av (List.set (List.set (List.set (List.set v17 (Int.toNat v19) (MLot.mk v18 x22.Instr x22.No x22.Qty x22.Cost)) (Int.toNat v19) (MLot.mk x25.Account (w64 (v18 + (1 : Int))) x25.No x25.Qty x25.Cost)) (Int.toNat v19) (MLot.mk x28.Account x28.Instr (w64 ((w64 (v18 + (1 : Int))) + (1 : Int))) x28.Qty x28.Cost)) (Int.toNat v19) (MLot.mk x31.Account x31.Instr x31.No (w64 ((w64 ((w64 (v18 + (1 : Int))) + (1 : Int))) + (1 : Int))) x31.Cost))) (set_map rfl) ?_
    refine OB.grd h (fun h33 h => ?_)
    refine EX.get h (fun x34 h35 h => ?_)
    refine RN.to (List.map MLot.av (List.set (List.set (List.set (List.set (List.set v17 (Int.toNat v19) (MLot.mk v18 x22.Instr x22.No x22.Qty x22.Cost)) (Int.toNat v19) (MLot.mk x25.Account (w64 (v18 + (1 : Int))) x25.No x25.Qty x25.Cost)) (Int.toNat v19) (MLot.mk x28.Account x28.Instr (w64 ((w64 (v18 + (1 : Int))) + (1 : Int))) x28.Qty x28.Cost)) (Int.toNat v19) (MLot.mk x31.Account x31.Instr x31.No (w64 ((w64 ((w64 (v18 + (1 : Int))) + (1 : Int))) + (1 : Int))) x31.Cost)) (Int.toNat v19) (MLot.mk x34.Account x34.Instr x34.No x34.Qty (w64 ((w64 ((w64 ((w64 (v18 + (1 : Int))) + (1 : Int))) + (1 : Int))) + (1 : Int)))))) (set_map rfl) ?_
    refine NX.next h ?_
    exact Exists.intro [.id 0] (And.intro rfl (And.intro (And.intro rfl trivial) (And.intro trivial (And.intro rfl (And.intro rfl trivial)))))
  exact lf2 h fun e0 e1 => Exists.intro [.id 0] (And.intro rfl (And.intro (And.intro (mpe e1) trivial) e0))
theorem con_l_markTradeS {a0 : (List MTrade)} {a1 : Int} {r0 : Int} {r1 : (List MTrade)} (h : l_markTradeS a0 a1 = some (r0, r1)) : Con Tryz.prog 89 [.own 0, .i .i64 a1] [.arr 8 (List.map MTrade.av a0)] (.i .i64 r0) [some (.arr 8 (List.map MTrade.av r1))] := by
  refine con_of_awpF hT mixed (fn := Tryz.f89) Tryz.func89 rfl rfl ?_
  unfold l_markTradeS at h
  refine LP.fuel (g := l_markTradeS_L1 _) (fun (v26, v27, v28) => ⟨[(0, .own 0), (1, .i .i64 v27), (5, .i .i64 v28)], [some (.arr 8 (List.map MTrade.av v26))]⟩) h (fun _ h => by cases h) ?_ ?_
  · exact Exists.intro [.id 0] (And.intro rfl (And.intro (And.intro rfl trivial) (And.intro trivial (And.intro rfl (And.intro rfl trivial)))))
  intro n v h
  obtain ⟨v26, v27, v28⟩ := v
  rw [l_markTradeS_L1.eq_2] at h
  refine HY.mk (fun _ => ?_)
  refine PS.ite h (fun h29 h => ?_) (fun h29 h => ?_)
  · refine OB.grd h (fun h30 h => ?_)
    refine EX.get h (fun x31 h32 h => ?_)
    refine RN.to (List.map MTrade.av (List.set v26 (Int.toNat v28) (MTrade.mk v27 x31.Buyer x31.Seller x31.Paper x31.Qty x31.Cash x31.Price x31.State))) (set_map rfl) ?_
    refine OB.grd h (fun h33 h => ?_)
    refine EX.get h (fun x34 h35 h => ?_)
    refine RN.to (List.map MTrade.av (List.set (List.set v26 (Int.toNat v28) (MTrade.mk v27 x31.Buyer x31.Seller x31.Paper x31.Qty x31.Cash x31.Price x31.State)) (Int.toNat v28) (MTrade.mk x34.No (w64 (v27 + (1 : Int))) x34.Seller x34.Paper x34.Qty x34.Cash x34.Price x34.State))) (set_map rfl) ?_
    refine OB.grd h (fun h36 h => ?_)
    refine EX.get h (fun x37 h38 h => ?_)
    refine RN.to (List.map MTrade.av (List.set (List.set (List.set v26 (Int.toNat v28) (MTrade.mk v27 x31.Buyer x31.Seller x31.Paper x31.Qty x31.Cash x31.Price x31.State)) (Int.toNat v28) (MTrade.mk x34.No (w64 (v27 + (1 : Int))) x34.Seller x34.Paper x34.Qty x34.Cash x34.Price x34.State)) (Int.toNat v28) (MTrade.mk x37.No x37.Buyer (w64 ((w64 (v27 + (1 : Int))) + (1 : Int))) x37.Paper x37.Qty x37.Cash x37.Price x37.State))) (set_map rfl) ?_
    refine OB.grd h (fun h39 h => ?_)
    refine EX.get h (fun x40 h41 h => ?_)
    refine RN.to (List.map MTrade.av (List.set (List.set (List.set (List.set v26 (Int.toNat v28) (MTrade.mk v27 x31.Buyer x31.Seller x31.Paper x31.Qty x31.Cash x31.Price x31.State)) (Int.toNat v28) (MTrade.mk x34.No (w64 (v27 + (1 : Int))) x34.Seller x34.Paper x34.Qty x34.Cash x34.Price x34.State)) (Int.toNat v28) (MTrade.mk x37.No x37.Buyer (w64 ((w64 (v27 + (1 : Int))) + (1 : Int))) x37.Paper x37.Qty x37.Cash x37.Price x37.State)) (Int.toNat v28) (MTrade.mk x40.No x40.Buyer x40.Seller (w64 ((w64 ((w64 (v27 + (1 : Int))) + (1 : Int))) + (1 : Int))) x40.Qty x40.Cash x40.Price x40.State))) (set_map rfl) ?_
    refine OB.grd h (fun h42 h => ?_)
    refine EX.get h (fun x43 h44 h => ?_)
    refine RN.to (List.map MTrade.av (List.set (List.set (List.set (List.set (List.set v26 (Int.toNat v28) (MTrade.mk v27 x31.Buyer x31.Seller x31.Paper x31.Qty x31.Cash x31.Price x31.State)) (Int.toNat v28) (MTrade.mk x34.No (w64 (v27 + (1 : Int))) x34.Seller x34.Paper x34.Qty x34.Cash x34.Price x34.State)) (Int.toNat v28) (MTrade.mk x37.No x37.Buyer (w64 ((w64 (v27 + (1 : Int))) + (1 : Int))) x37.Paper x37.Qty x37.Cash x37.Price x37.State)) (Int.toNat v28) (MTrade.mk x40.No x40.Buyer x40.Seller (w64 ((w64 ((w64 (v27 + (1 : Int))) + (1 : Int))) + (1 : Int))) x40.Qty x40.Cash x40.Price x40.State)) (Int.toNat v28) (MTrade.mk x43.No x43.Buyer x43.Seller x43.Paper (w64 ((w64 ((w64 ((w64 (v27 + (1 : Int))) + (1 : Int))) + (1 : Int))) + (1 : Int))) x43.Cash x43.Price x43.State))) (set_map rfl) ?_
    refine OB.grd h (fun h45 h => ?_)
    refine EX.get h (fun x46 h47 h => ?_)
    refine RN.to (List.map MTrade.av (List.set (List.set (List.set (List.set (List.set (List.set v26 (Int.toNat v28) (MTrade.mk v27 x31.Buyer x31.Seller x31.Paper x31.Qty x31.Cash x31.Price x31.State)) (Int.toNat v28) (MTrade.mk x34.No (w64 (v27 + (1 : Int))) x34.Seller x34.Paper x34.Qty x34.Cash x34.Price x34.State)) (Int.toNat v28) (MTrade.mk x37.No x37.Buyer (w64 ((w64 (v27 + (1 : Int))) + (1 : Int))) x37.Paper x37.Qty x37.Cash x37.Price x37.State)) (Int.toNat v28) (MTrade.mk x40.No x40.Buyer x40.Seller (w64 ((w64 ((w64 (v27 + (1 : Int))) + (1 : Int))) + (1 : Int))) x40.Qty x40.Cash x40.Price x40.State)) (Int.toNat v28) (MTrade.mk x43.No x43.Buyer x43.Seller x43.Paper (w64 ((w64 ((w64 ((w64 (v27 + (1 : Int))) + (1 : Int))) + (1 : Int))) + (1 : Int))) x43.Cash x43.Price x43.State)) (Int.toNat v28) (MTrade.mk x46.No x46.Buyer x46.Seller x46.Paper x46.Qty (w64 ((w64 ((w64 ((w64 ((w64 (v27 + (1 : Int))) + (1 : Int))) + (1 : Int))) + (1 : Int))) + (1 : Int))) x46.Price x46.State))) (set_map rfl) ?_
    refine OB.grd h (fun h48 h => ?_)
    refine EX.get h (fun x49 h50 h => ?_)
    refine RN.to (List.map MTrade.av (List.set (List.set (List.set (List.set (List.set (List.set (List.set v26 (Int.toNat v28) (MTrade.mk v27 x31.Buyer x31.Seller x31.Paper x31.Qty x31.Cash x31.Price x31.State)) (Int.toNat v28) (MTrade.mk x34.No (w64 (v27 + (1 : Int))) x34.Seller x34.Paper x34.Qty x34.Cash x34.Price x34.State)) (Int.toNat v28) (MTrade.mk x37.No x37.Buyer (w64 ((w64 (v27 + (1 : Int))) + (1 : Int))) x37.Paper x37.Qty x37.Cash x37.Price x37.State)) (Int.toNat v28) (MTrade.mk x40.No x40.Buyer x40.Seller (w64 ((w64 ((w64 (v27 + (1 : Int))) + (1 : Int))) + (1 : Int))) x40.Qty x40.Cash x40.Price x40.State)) (Int.toNat v28) (MTrade.mk x43.No x43.Buyer x43.Seller x43.Paper (w64 ((w64 ((w64 ((w64 (v27 + (1 : Int))) + (1 : Int))) + (1 : Int))) + (1 : Int))) x43.Cash x43.Price x43.State)) (Int.toNat v28) (MTrade.mk x46.No x46.Buyer x46.Seller x46.Paper x46.Qty (w64 ((w64 ((w64 ((w64 ((w64 (v27 + (1 : Int))) + (1 : Int))) + (1 : Int))) + (1 : Int))) + (1 : Int))) x46.Price x46.State)) (Int.toNat v28) (MTrade.mk x49.No x49.Buyer x49.Seller x49.Paper x49.Qty x49.Cash (w64 ((w64 ((w64 ((w64 ((w64 ((w64 (v27 + (1 : Int))) + (1 : Int))) + (1 : Int))) + (1 : Int))) + (1 : Int))) + (1 : Int))) x49.State))) (set_map rfl) ?_
    refine OB.grd h (fun h51 h => ?_)
    refine EX.get h (fun x52 h53 h => ?_)
    refine RN.to (List.map MTrade.av (List.set (List.set (List.set (List.set (List.set (List.set (List.set (List.set v26 (Int.toNat v28) (MTrade.mk v27 x31.Buyer x31.Seller x31.Paper x31.Qty x31.Cash x31.Price x31.State)) (Int.toNat v28) (MTrade.mk x34.No (w64 (v27 + (1 : Int))) x34.Seller x34.Paper x34.Qty x34.Cash x34.Price x34.State)) (Int.toNat v28) (MTrade.mk x37.No x37.Buyer (w64 ((w64 (v27 + (1 : Int))) + (1 : Int))) x37.Paper x37.Qty x37.Cash x37.Price x37.State)) (Int.toNat v28) (MTrade.mk x40.No x40.Buyer x40.Seller (w64 ((w64 ((w64 (v27 + (1 : Int))) + (1 : Int))) + (1 : Int))) x40.Qty x40.Cash x40.Price x40.State)) (Int.toNat v28) (MTrade.mk x43.No x43.Buyer x43.Seller x43.Paper (w64 ((w64 ((w64 ((w64 (v27 + (1 : Int))) + (1 : Int))) + (1 : Int))) + (1 : Int))) x43.Cash x43.Price x43.State)) (Int.toNat v28) (MTrade.mk x46.No x46.Buyer x46.Seller x46.Paper x46.Qty (w64 ((w64 ((w64 ((w64 ((w64 (v27 + (1 : Int))) + (1 : Int))) + (1 : Int))) + (1 : Int))) + (1 : Int))) x46.Price x46.State)) (Int.toNat v28) (MTrade.mk x49.No x49.Buyer x49.Seller x49.Paper x49.Qty x49.Cash (w64 ((w64 ((w64 ((w64 ((w64 ((w64 (v27 + (1 : Int))) + (1 : Int))) + (1 : Int))) + (1 : Int))) + (1 : Int))) + (1 : Int))) x49.State)) (Int.toNat v28) (MTrade.mk x52.No x52.Buyer x52.Seller x52.Paper x52.Qty x52.Cash x52.Price (w64 ((w64 ((w64 ((w64 ((w64 ((w64 ((w64 (v27 + (1 : Int))) + (1 : Int))) + (1 : Int))) + (1 : Int))) + (1 : Int))) + (1 : Int))) + (1 : Int)))))) (set_map rfl) ?_
    refine NX.next h ?_
    exact Exists.intro [.id 0] (And.intro rfl (And.intro (And.intro rfl trivial) (And.intro trivial (And.intro rfl (And.intro rfl trivial)))))
  exact lf2 h fun e0 e1 => Exists.intro [.id 0] (And.intro rfl (And.intro (And.intro (mpe e1) trivial) e0))
theorem con_l_markBooks {a0_0 : (List MAccount)} {a0_1 : (List MInstr)} {a0_2 : (List MBal)} {a0_3 : (List MLot)} {a0_4 : (List MTrade)} {a0_5 : Int} {a1 : Int} {r0 : Int} {r1 : (List MAccount)} {r2 : (List MInstr)} {r3 : (List MBal)} {r4 : (List MLot)} {r5 : (List MTrade)} (h : l_markBooks a0_0 a0_1 a0_2 a0_3 a0_4 a0_5 a1 = some (r0, r1, r2, r3, r4, r5)) : Con Tryz.prog 38 [.agg [.own 0, .own 1, .own 2, .own 3, .own 4, .i .i64 a0_5], .i .i64 a1] [.arr 2 (List.map MAccount.av a0_0), .arr 2 (List.map MInstr.av a0_1), .arr 3 (List.map MBal.av a0_2), .arr 5 (List.map MLot.av a0_3), .arr 8 (List.map MTrade.av a0_4)] (.i .i64 r0) [some (.arr 2 (List.map MAccount.av r1)), some (.arr 2 (List.map MInstr.av r2)), some (.arr 3 (List.map MBal.av r3)), some (.arr 5 (List.map MLot.av r4)), some (.arr 8 (List.map MTrade.av r5))] := by
  refine con_of_awpF hT mixed (fn := Tryz.f38) Tryz.func38 rfl rfl ?_
  unfold l_markBooks at h
  refine CK.call false [0] h (fun _ h => con_l_markAccountS h) (And.intro rfl (And.intro rfl trivial)) (And.intro rfl trivial) rfl (fun _ => rfl) (fun _ => Or.inl rfl) (fun y1 h2 h => ?_)
  refine RN.mk ?_
  refine CK.call false [1] h (fun _ h => con_l_markInstrS h) (And.intro rfl (And.intro rfl trivial)) (And.intro rfl trivial) rfl (fun _ => rfl) (fun _ => Or.inl rfl) (fun y3 h4 h => ?_)
  refine RN.mk ?_
  refine CK.call false [2] h (fun _ h => con_l_markBalS h) (And.intro rfl (And.intro rfl trivial)) (And.intro rfl trivial) rfl (fun _ => rfl) (fun _ => Or.inl rfl) (fun y5 h6 h => ?_)
  refine RN.mk ?_
  refine CK.call false [3] h (fun _ h => con_l_markLotS h) (And.intro rfl (And.intro rfl trivial)) (And.intro rfl trivial) rfl (fun _ => rfl) (fun _ => Or.inl rfl) (fun y7 h8 h => ?_)
  refine RN.mk ?_
  refine CK.call false [4] h (fun _ h => con_l_markTradeS h) (And.intro rfl (And.intro rfl trivial)) (And.intro rfl trivial) rfl (fun _ => rfl) (fun _ => Or.inl rfl) (fun y9 h10 h => ?_)
  refine RN.mk ?_
  exact lf6 h fun e0 e1 e2 e3 e4 e5 => Exists.intro [.id 0, .id 1, .id 2, .id 3, .id 4] (And.intro rfl (And.intro (And.intro (mpe e1) (And.intro (mpe e2) (And.intro (mpe e3) (And.intro (mpe e4) (And.intro (mpe e5) trivial))))) e0))
theorem con_l_markSave {a0_0 : Int} {a0_1 : (List MAccount)} {a0_2 : (List MInstr)} {a0_3 : (List MBal)} {a0_4 : (List MLot)} {a0_5 : (List MTrade)} {a0_6 : Int} {a1 : Int} {r0 : Int} {r1 : (List MAccount)} {r2 : (List MInstr)} {r3 : (List MBal)} {r4 : (List MLot)} {r5 : (List MTrade)} (h : l_markSave a0_0 a0_1 a0_2 a0_3 a0_4 a0_5 a0_6 a1 = some (r0, r1, r2, r3, r4, r5)) : Con Tryz.prog 13 [.agg [.i .i64 a0_0, .own 0, .own 1, .own 2, .own 3, .own 4, .i .i64 a0_6], .i .i64 a1] [.arr 2 (List.map MAccount.av a0_1), .arr 2 (List.map MInstr.av a0_2), .arr 3 (List.map MBal.av a0_3), .arr 5 (List.map MLot.av a0_4), .arr 8 (List.map MTrade.av a0_5)] (.i .i64 r0) [some (.arr 2 (List.map MAccount.av r1)), some (.arr 2 (List.map MInstr.av r2)), some (.arr 3 (List.map MBal.av r3)), some (.arr 5 (List.map MLot.av r4)), some (.arr 8 (List.map MTrade.av r5))] := by
  refine con_of_awpF hT mixed (fn := Tryz.f13) Tryz.func13 rfl rfl ?_
  unfold l_markSave at h
  refine CK.call false [0, 1, 2, 3, 4] h (fun _ h => con_l_markBooks h) (And.intro (And.intro rfl (And.intro rfl (And.intro rfl (And.intro rfl (And.intro rfl (And.intro rfl trivial)))))) (And.intro rfl trivial)) (And.intro rfl (And.intro rfl (And.intro rfl (And.intro rfl (And.intro rfl trivial))))) rfl (fun _ => rfl) (fun _ => Or.inl rfl) (fun y1 h2 h => ?_)
  refine RN.mk ?_
  refine RN.mk ?_
  refine RN.mk ?_
  refine RN.mk ?_
  refine RN.mk ?_
  exact lf6 h fun e0 e1 e2 e3 e4 e5 => Exists.intro [.id 0, .id 1, .id 2, .id 3, .id 4] (And.intro rfl (And.intro (And.intro (mpe e1) (And.intro (mpe e2) (And.intro (mpe e3) (And.intro (mpe e4) (And.intro (mpe e5) trivial))))) e0))
theorem con_l_heldAccountS {a0 : (List MAccount)} {a1 : Int} {r0 : Int} (h : l_heldAccountS a0 a1 = some r0) : Con Tryz.prog 90 [.sl 2 (List.map MAccount.av a0), .i .i64 a1] [] (.i .i64 r0) [] := by
  refine con_of_awpF hT mixed (fn := Tryz.f90) Tryz.func90 rfl rfl ?_
  unfold l_heldAccountS at h
  refine LP.fuel (g := l_heldAccountS_L1 a0 _) (fun (v7, v8) => ⟨[(0, .sl 2 (List.map MAccount.av a0)), (1, .i .i64 v7), (5, .i .i64 v8)], []⟩) h (fun _ h => by cases h) ?_ ?_
  · exact Exists.intro [] (And.intro rfl (And.intro trivial (And.intro rfl (And.intro rfl (And.intro rfl trivial)))))
  intro n v h
  obtain ⟨v7, v8⟩ := v
  rw [l_heldAccountS_L1.eq_2] at h
  refine HY.mk (fun _ => ?_)
  refine PS.ite h (fun h9 h => ?_) (fun h9 h => ?_)
  · refine OB.grd h (fun h10 h => ?_)
    refine EX.get h (fun x11 h12 h => ?_)
    refine PS.ite h (fun h13 h => ?_) (fun h13 h => ?_)
    · exact lf1 h fun e0 => Exists.intro [] (And.intro rfl (And.intro trivial e0))
    refine OB.mk h10 ?_
    refine EX.pos h12 ?_
    refine PS.ite h (fun h14 h => ?_) (fun h14 h => ?_)
    · exact lf1 h fun e0 => Exists.intro [] (And.intro rfl (And.intro trivial e0))
    refine NX.next h ?_
    exact Exists.intro [] (And.intro rfl (And.intro trivial (And.intro rfl (And.intro rfl (And.intro rfl trivial)))))
  exact lf1 h fun e0 => Exists.intro [] (And.intro rfl (And.intro trivial e0))
theorem con_l_heldInstrS {a0 : (List MInstr)} {a1 : Int} {r0 : Int} (h : l_heldInstrS a0 a1 = some r0) : Con Tryz.prog 91 [.sl 2 (List.map MInstr.av a0), .i .i64 a1] [] (.i .i64 r0) [] := by
  refine con_of_awpF hT mixed (fn := Tryz.f91) Tryz.func91 rfl rfl ?_
  unfold l_heldInstrS at h
  refine LP.fuel (g := l_heldInstrS_L1 a0 _) (fun (v7, v8) => ⟨[(0, .sl 2 (List.map MInstr.av a0)), (1, .i .i64 v7), (5, .i .i64 v8)], []⟩) h (fun _ h => by cases h) ?_ ?_
  · exact Exists.intro [] (And.intro rfl (And.intro trivial (And.intro rfl (And.intro rfl (And.intro rfl trivial)))))
  intro n v h
  obtain ⟨v7, v8⟩ := v
  rw [l_heldInstrS_L1.eq_2] at h
  refine HY.mk (fun _ => ?_)
  refine PS.ite h (fun h9 h => ?_) (fun h9 h => ?_)
  · refine OB.grd h (fun h10 h => ?_)
    refine EX.get h (fun x11 h12 h => ?_)
    refine PS.ite h (fun h13 h => ?_) (fun h13 h => ?_)
    · exact lf1 h fun e0 => Exists.intro [] (And.intro rfl (And.intro trivial e0))
    refine OB.mk h10 ?_
    refine EX.pos h12 ?_
    refine PS.ite h (fun h14 h => ?_) (fun h14 h => ?_)
    · exact lf1 h fun e0 => Exists.intro [] (And.intro rfl (And.intro trivial e0))
    refine NX.next h ?_
    exact Exists.intro [] (And.intro rfl (And.intro trivial (And.intro rfl (And.intro rfl (And.intro rfl trivial)))))
  exact lf1 h fun e0 => Exists.intro [] (And.intro rfl (And.intro trivial e0))
theorem con_l_heldBalS {a0 : (List MBal)} {a1 : Int} {r0 : Int} (h : l_heldBalS a0 a1 = some r0) : Con Tryz.prog 92 [.sl 3 (List.map MBal.av a0), .i .i64 a1] [] (.i .i64 r0) [] := by
  refine con_of_awpF hT mixed (fn := Tryz.f92) Tryz.func92 rfl rfl ?_
  unfold l_heldBalS at h
  refine LP.fuel (g := l_heldBalS_L1 a0 _) (fun (v8, v9) => ⟨[(0, .sl 3 (List.map MBal.av a0)), (1, .i .i64 v8), (5, .i .i64 v9)], []⟩) h (fun _ h => by cases h) ?_ ?_
  · exact Exists.intro [] (And.intro rfl (And.intro trivial (And.intro rfl (And.intro rfl (And.intro rfl trivial)))))
  intro n v h
  obtain ⟨v8, v9⟩ := v
  rw [l_heldBalS_L1.eq_2] at h
  refine HY.mk (fun _ => ?_)
  refine PS.ite h (fun h10 h => ?_) (fun h10 h => ?_)
  · refine OB.grd h (fun h11 h => ?_)
    refine EX.get h (fun x12 h13 h => ?_)
    refine PS.ite h (fun h14 h => ?_) (fun h14 h => ?_)
    · exact lf1 h fun e0 => Exists.intro [] (And.intro rfl (And.intro trivial e0))
    refine OB.mk h11 ?_
    refine EX.pos h13 ?_
    refine PS.ite h (fun h15 h => ?_) (fun h15 h => ?_)
    · exact lf1 h fun e0 => Exists.intro [] (And.intro rfl (And.intro trivial e0))
    refine OB.mk h11 ?_
    refine EX.pos h13 ?_
    refine PS.ite h (fun h16 h => ?_) (fun h16 h => ?_)
    · exact lf1 h fun e0 => Exists.intro [] (And.intro rfl (And.intro trivial e0))
    refine NX.next h ?_
    exact Exists.intro [] (And.intro rfl (And.intro trivial (And.intro rfl (And.intro rfl (And.intro rfl trivial)))))
  exact lf1 h fun e0 => Exists.intro [] (And.intro rfl (And.intro trivial e0))
theorem con_l_heldLotS {a0 : (List MLot)} {a1 : Int} {r0 : Int} (h : l_heldLotS a0 a1 = some r0) : Con Tryz.prog 93 [.sl 5 (List.map MLot.av a0), .i .i64 a1] [] (.i .i64 r0) [] := by
  refine con_of_awpF hT mixed (fn := Tryz.f93) Tryz.func93 rfl rfl ?_
  unfold l_heldLotS at h
  refine LP.fuel (g := l_heldLotS_L1 a0 _) (fun (v10, v11) => ⟨[(0, .sl 5 (List.map MLot.av a0)), (1, .i .i64 v10), (5, .i .i64 v11)], []⟩) h (fun _ h => by cases h) ?_ ?_
  · exact Exists.intro [] (And.intro rfl (And.intro trivial (And.intro rfl (And.intro rfl (And.intro rfl trivial)))))
  intro n v h
  obtain ⟨v10, v11⟩ := v
  rw [l_heldLotS_L1.eq_2] at h
  refine HY.mk (fun _ => ?_)
  refine PS.ite h (fun h12 h => ?_) (fun h12 h => ?_)
  · refine OB.grd h (fun h13 h => ?_)
    refine EX.get h (fun x14 h15 h => ?_)
    refine PS.ite h (fun h16 h => ?_) (fun h16 h => ?_)
    · exact lf1 h fun e0 => Exists.intro [] (And.intro rfl (And.intro trivial e0))
    refine OB.mk h13 ?_
    refine EX.pos h15 ?_
    refine PS.ite h (fun h17 h => ?_) (fun h17 h => ?_)
    · exact lf1 h fun e0 => Exists.intro [] (And.intro rfl (And.intro trivial e0))
    refine OB.mk h13 ?_
    refine EX.pos h15 ?_
    refine PS.ite h (fun h18 h => ?_) (fun h18 h => ?_)
    · exact lf1 h fun e0 => Exists.intro [] (And.intro rfl (And.intro trivial e0))
    refine OB.mk h13 ?_
    refine EX.pos h15 ?_
    refine PS.ite h (fun h19 h => ?_) (fun h19 h => ?_)
    · exact lf1 h fun e0 => Exists.intro [] (And.intro rfl (And.intro trivial e0))
    refine OB.mk h13 ?_
    refine EX.pos h15 ?_
    refine PS.ite h (fun h20 h => ?_) (fun h20 h => ?_)
    · exact lf1 h fun e0 => Exists.intro [] (And.intro rfl (And.intro trivial e0))
    refine NX.next h ?_
    exact Exists.intro [] (And.intro rfl (And.intro trivial (And.intro rfl (And.intro rfl (And.intro rfl trivial)))))
  exact lf1 h fun e0 => Exists.intro [] (And.intro rfl (And.intro trivial e0))
theorem con_l_heldTradeS {a0 : (List MTrade)} {a1 : Int} {r0 : Int} (h : l_heldTradeS a0 a1 = some r0) : Con Tryz.prog 94 [.sl 8 (List.map MTrade.av a0), .i .i64 a1] [] (.i .i64 r0) [] := by
  refine con_of_awpF hT mixed (fn := Tryz.f94) Tryz.func94 rfl rfl ?_
  unfold l_heldTradeS at h
  refine LP.fuel (g := l_heldTradeS_L1 a0 _) (fun (v13, v14) => ⟨[(0, .sl 8 (List.map MTrade.av a0)), (1, .i .i64 v13), (5, .i .i64 v14)], []⟩) h (fun _ h => by cases h) ?_ ?_
  · exact Exists.intro [] (And.intro rfl (And.intro trivial (And.intro rfl (And.intro rfl (And.intro rfl trivial)))))
  intro n v h
  obtain ⟨v13, v14⟩ := v
  rw [l_heldTradeS_L1.eq_2] at h
  refine HY.mk (fun _ => ?_)
  refine PS.ite h (fun h15 h => ?_) (fun h15 h => ?_)
  · refine OB.grd h (fun h16 h => ?_)
    refine EX.get h (fun x17 h18 h => ?_)
    refine PS.ite h (fun h19 h => ?_) (fun h19 h => ?_)
    · exact lf1 h fun e0 => Exists.intro [] (And.intro rfl (And.intro trivial e0))
    refine OB.mk h16 ?_
    refine EX.pos h18 ?_
    refine PS.ite h (fun h20 h => ?_) (fun h20 h => ?_)
    · exact lf1 h fun e0 => Exists.intro [] (And.intro rfl (And.intro trivial e0))
    refine OB.mk h16 ?_
    refine EX.pos h18 ?_
    refine PS.ite h (fun h21 h => ?_) (fun h21 h => ?_)
    · exact lf1 h fun e0 => Exists.intro [] (And.intro rfl (And.intro trivial e0))
    refine OB.mk h16 ?_
    refine EX.pos h18 ?_
    refine PS.ite h (fun h22 h => ?_) (fun h22 h => ?_)
    · exact lf1 h fun e0 => Exists.intro [] (And.intro rfl (And.intro trivial e0))
    refine OB.mk h16 ?_
    refine EX.pos h18 ?_
    refine PS.ite h (fun h23 h => ?_) (fun h23 h => ?_)
    · exact lf1 h fun e0 => Exists.intro [] (And.intro rfl (And.intro trivial e0))
    refine OB.mk h16 ?_
    refine EX.pos h18 ?_
    refine PS.ite h (fun h24 h => ?_) (fun h24 h => ?_)
    · exact lf1 h fun e0 => Exists.intro [] (And.intro rfl (And.intro trivial e0))
    refine OB.mk h16 ?_
    refine EX.pos h18 ?_
    refine PS.ite h (fun h25 h => ?_) (fun h25 h => ?_)
    · exact lf1 h fun e0 => Exists.intro [] (And.intro rfl (And.intro trivial e0))
    refine OB.mk h16 ?_
    refine EX.pos h18 ?_
    refine PS.ite h (fun h26 h => ?_) (fun h26 h => ?_)
    · exact lf1 h fun e0 => Exists.intro [] (And.intro rfl (And.intro trivial e0))
    refine NX.next h ?_
    exact Exists.intro [] (And.intro rfl (And.intro trivial (And.intro rfl (And.intro rfl (And.intro rfl trivial)))))
  exact lf1 h fun e0 => Exists.intro [] (And.intro rfl (And.intro trivial e0))
theorem con_l_heldBooks {a0 : MBooks} {a1 : Int} {r0 : Int} (h : l_heldBooks a0 a1 = some r0) : Con Tryz.prog 39 [.agg [.sl 2 (List.map MAccount.av a0.Accounts), .sl 2 (List.map MInstr.av a0.Instrs), .sl 3 (List.map MBal.av a0.Bals), .sl 5 (List.map MLot.av a0.Lots), .sl 8 (List.map MTrade.av a0.Trades), .i .i64 a0.Lot], .i .i64 a1] [] (.i .i64 r0) [] := by
  refine con_of_awpF hT mixed (fn := Tryz.f39) Tryz.func39 rfl rfl ?_
  unfold l_heldBooks at h
  refine CK.call false [] h (fun _ h => con_l_heldAccountS h) (And.intro rfl (And.intro rfl trivial)) trivial rfl (fun _ => rfl) (fun _ => Or.inl rfl) (fun y1 h2 h => ?_)
  refine PS.ite h (fun h3 h => ?_) (fun h3 h => ?_)
  · exact lf1 h fun e0 => Exists.intro [] (And.intro rfl (And.intro trivial e0))
  refine CK.call false [] h (fun _ h => con_l_heldInstrS h) (And.intro rfl (And.intro rfl trivial)) trivial rfl (fun _ => rfl) (fun _ => Or.inl rfl) (fun y4 h5 h => ?_)
  refine PS.ite h (fun h6 h => ?_) (fun h6 h => ?_)
  · exact lf1 h fun e0 => Exists.intro [] (And.intro rfl (And.intro trivial e0))
  refine CK.call false [] h (fun _ h => con_l_heldBalS h) (And.intro rfl (And.intro rfl trivial)) trivial rfl (fun _ => rfl) (fun _ => Or.inl rfl) (fun y7 h8 h => ?_)
  refine PS.ite h (fun h9 h => ?_) (fun h9 h => ?_)
  · exact lf1 h fun e0 => Exists.intro [] (And.intro rfl (And.intro trivial e0))
  refine CK.call false [] h (fun _ h => con_l_heldLotS h) (And.intro rfl (And.intro rfl trivial)) trivial rfl (fun _ => rfl) (fun _ => Or.inl rfl) (fun y10 h11 h => ?_)
  refine PS.ite h (fun h12 h => ?_) (fun h12 h => ?_)
  · exact lf1 h fun e0 => Exists.intro [] (And.intro rfl (And.intro trivial e0))
  refine CK.call false [] h (fun _ h => con_l_heldTradeS h) (And.intro rfl (And.intro rfl trivial)) trivial rfl (fun _ => rfl) (fun _ => Or.inl rfl) (fun y13 h14 h => ?_)
  refine PS.ite h (fun h15 h => ?_) (fun h15 h => ?_)
  · exact lf1 h fun e0 => Exists.intro [] (And.intro rfl (And.intro trivial e0))
  exact lf1 h fun e0 => Exists.intro [] (And.intro rfl (And.intro trivial e0))
theorem con_l_heldSave {a0 : MSave} {a1 : Int} {r0 : Int} (h : l_heldSave a0 a1 = some r0) : Con Tryz.prog 14 [.agg [.i .i64 a0.From, .sl 2 (List.map MAccount.av a0.Books.Accounts), .sl 2 (List.map MInstr.av a0.Books.Instrs), .sl 3 (List.map MBal.av a0.Books.Bals), .sl 5 (List.map MLot.av a0.Books.Lots), .sl 8 (List.map MTrade.av a0.Books.Trades), .i .i64 a0.Books.Lot], .i .i64 a1] [] (.i .i64 r0) [] := by
  refine con_of_awpF hT mixed (fn := Tryz.f14) Tryz.func14 rfl rfl ?_
  unfold l_heldSave at h
  refine CK.call false [] h (fun _ h => con_l_heldBooks h) (And.intro (And.intro rfl (And.intro rfl (And.intro rfl (And.intro rfl (And.intro rfl (And.intro rfl trivial)))))) (And.intro rfl trivial)) trivial rfl (fun _ => rfl) (fun _ => Or.inl rfl) (fun y1 h2 h => ?_)
  refine PS.ite h (fun h3 h => ?_) (fun h3 h => ?_)
  · exact lf1 h fun e0 => Exists.intro [] (And.intro rfl (And.intro trivial e0))
  exact lf1 h fun e0 => Exists.intro [] (And.intro rfl (And.intro trivial e0))
theorem con_l_FnExactSaveLoad {a0 : MDisk} {r0 : Bool} (h : l_FnExactSaveLoad a0 = some r0) : Con Tryz.prog 3 [.agg [.i .i64 a0.Room, .sl 3 (List.map MFile.av a0.Files)]] [] (.p (r0 = true)) [] := by
  refine con_of_awpF hT mixed (fn := Tryz.f3) Tryz.func3 rfl rfl ?_
  unfold l_FnExactSaveLoad at h
  refine CK.call false [] h (fun _ h => con_l_szDisk h) (And.intro (And.intro rfl (And.intro rfl trivial)) (And.intro rfl trivial)) trivial rfl (fun _ => rfl) (fun _ => Or.inl rfl) (fun y1 h2 h => ?_)
  refine PS.ite h (fun h3 h => ?_) (fun h3 h => ?_)
  · exact lf1 h fun e0 => Exists.intro [] (And.intro rfl (And.intro trivial (be e0)))
  refine CK.call false [] h (fun _ h => con_l_toDisk h) (And.intro (And.intro rfl (And.intro rfl trivial)) trivial) trivial rfl (fun _ => rfl) (fun _ => Or.inl rfl) (fun y4 h5 h => ?_)
  refine RN.mk ?_
  refine CK.call false [] h (fun _ h => con_s_SaveLoad h) (And.intro (And.intro rfl (And.intro rfl trivial)) trivial) trivial rfl (fun _ => rfl) (fun _ => Or.inr (Flat.mk rfl (And.intro (FlatO.map fun _ => rfl) (And.intro (FlatO.map fun _ => rfl) (And.intro (FlatO.map fun _ => rfl) (And.intro (FlatO.map fun _ => rfl) (And.intro (FlatO.map fun _ => rfl) trivial))))))) (fun y6 h7 h => ?_)
  refine RN.mk ?_
  refine RN.mk ?_
  refine RN.mk ?_
  refine RN.mk ?_
  refine RN.mk ?_
  refine CK.call false [] h (fun _ h => con_l_toDisk h) (And.intro (And.intro rfl (And.intro rfl trivial)) trivial) trivial rfl (fun _ => rfl) (fun _ => Or.inl rfl) (fun y8 h9 h => ?_)
  refine RN.mk ?_
  refine CK.call false [] h (fun _ h => con_i_SaveLoad h) (And.intro (And.intro rfl (And.intro rfl trivial)) trivial) trivial rfl (fun _ => rfl) (fun _ => Or.inr (Flat.mk rfl (And.intro (FlatO.map fun _ => rfl) (And.intro (FlatO.map fun _ => rfl) (And.intro (FlatO.map fun _ => rfl) (And.intro (FlatO.map fun _ => rfl) (And.intro (FlatO.map fun _ => rfl) trivial))))))) (fun y10 h11 h => ?_)
  refine RN.mk ?_
  refine RN.mk ?_
  refine RN.mk ?_
  refine RN.mk ?_
  refine RN.mk ?_
  refine CK.call false [] h (fun _ h => con_l_eqSave h) (And.intro (And.intro rfl (And.intro rfl (And.intro rfl (And.intro rfl (And.intro rfl (And.intro rfl (And.intro rfl trivial))))))) (And.intro (And.intro rfl (And.intro rfl (And.intro rfl (And.intro rfl (And.intro rfl (And.intro rfl (And.intro rfl trivial))))))) trivial)) trivial rfl (fun _ => rfl) (fun _ => Or.inr (Flat.mk rfl trivial)) (fun y12 h13 h => ?_)
  refine PS.ite h (fun h14 h => ?_) (fun h14 h => ?_)
  · exact lf1 h fun e0 => Exists.intro [] (And.intro rfl (And.intro trivial (be e0)))
  refine PS.ite h (fun h15 h => ?_) (fun h15 h => ?_)
  · exact lf1 h fun e0 => Exists.intro [] (And.intro rfl (And.intro trivial (be e0)))
  refine CK.call false [] h (fun _ h => con_l_toDisk h) (And.intro (And.intro rfl (And.intro rfl trivial)) trivial) trivial rfl (fun _ => rfl) (fun _ => Or.inl rfl) (fun y16 h17 h => ?_)
  refine RN.mk ?_
  refine CK.call false [] h (fun _ h => con_l_eqDisk h) (And.intro (And.intro rfl (And.intro rfl trivial)) (And.intro (And.intro rfl (And.intro rfl trivial)) trivial)) trivial rfl (fun _ => rfl) (fun _ => Or.inr (Flat.mk rfl trivial)) (fun y18 h19 h => ?_)
  refine OB.mk (by kernel_rfl) ?_
  refine PS.ite h (fun h20 h => ?_) (fun h20 h => ?_)
  · exact lf1 h fun e0 => Exists.intro [] (And.intro rfl (And.intro trivial (be e0)))
  refine CK.call false [304] h (fun _ h => con_l_markDisk h) (And.intro (And.intro rfl (And.intro rfl trivial)) (And.intro rfl trivial)) (And.intro rfl trivial) rfl (fun _ => rfl) (fun _ => Or.inl rfl) (fun y21 h22 h => ?_)
  refine RN.mk ?_
  refine PS.ite h (fun h23 h => ?_) (fun h23 h => ?_)
  · exact lf1 h fun e0 => Exists.intro [] (And.intro rfl (And.intro trivial (be e0)))
  refine CK.call false [] h (fun _ h => con_l_eqSave h) (And.intro (And.intro rfl (And.intro rfl (And.intro rfl (And.intro rfl (And.intro rfl (And.intro rfl (And.intro rfl trivial))))))) (And.intro (And.intro rfl (And.intro rfl (And.intro rfl (And.intro rfl (And.intro rfl (And.intro rfl (And.intro rfl trivial))))))) trivial)) trivial rfl (fun _ => rfl) (fun _ => Or.inr (Flat.mk rfl trivial)) (fun y24 h25 h => ?_)
  refine PS.ite h (fun h26 h => ?_) (fun h26 h => ?_)
  · exact lf1 h fun e0 => Exists.intro [] (And.intro rfl (And.intro trivial (be e0)))
  refine PS.neg h15 ?_
  refine CK.call false [368, 369, 370, 371, 372] h (fun _ h => con_l_markSave h) (And.intro (And.intro rfl (And.intro rfl (And.intro rfl (And.intro rfl (And.intro rfl (And.intro rfl (And.intro rfl trivial))))))) (And.intro rfl trivial)) (And.intro rfl (And.intro rfl (And.intro rfl (And.intro rfl (And.intro rfl trivial))))) rfl (fun _ => rfl) (fun _ => Or.inl rfl) (fun y27 h28 h => ?_)
  refine RN.mk ?_
  refine RN.mk ?_
  refine RN.mk ?_
  refine RN.mk ?_
  refine RN.mk ?_
  refine CK.call false [] h (fun _ h => con_l_heldSave h) (And.intro (And.intro rfl (And.intro rfl (And.intro rfl (And.intro rfl (And.intro rfl (And.intro rfl (And.intro rfl trivial))))))) (And.intro rfl trivial)) trivial rfl (fun _ => rfl) (fun _ => Or.inr (Flat.mk rfl trivial)) (fun y29 h30 h => ?_)
  refine PS.ite h (fun h31 h => ?_) (fun h31 h => ?_)
  · exact lf1 h fun e0 => Exists.intro [] (And.intro rfl (And.intro trivial (be e0)))
  refine PS.ite h (fun h32 h => ?_) (fun h32 h => ?_)
  · exact lf1 h fun e0 => Exists.intro [] (And.intro rfl (And.intro trivial (be e0)))
  refine CK.call false [] h (fun _ h => con_l_toDisk h) (And.intro (And.intro rfl (And.intro rfl trivial)) trivial) trivial rfl (fun _ => rfl) (fun _ => Or.inl rfl) (fun y33 h34 h => ?_)
  refine RN.mk ?_
  refine CK.call false [] h (fun _ h => con_i_SaveLoad h) (And.intro (And.intro rfl (And.intro rfl trivial)) trivial) trivial rfl (fun _ => rfl) (fun _ => Or.inr (Flat.mk rfl (And.intro (FlatO.map fun _ => rfl) (And.intro (FlatO.map fun _ => rfl) (And.intro (FlatO.map fun _ => rfl) (And.intro (FlatO.map fun _ => rfl) (And.intro (FlatO.map fun _ => rfl) trivial))))))) (fun y35 h36 h => ?_)
  refine RN.mk ?_
  refine RN.mk ?_
  refine RN.mk ?_
  refine RN.mk ?_
  refine RN.mk ?_
  refine CK.call false [] h (fun _ h => con_l_eqSave h) (And.intro (And.intro rfl (And.intro rfl (And.intro rfl (And.intro rfl (And.intro rfl (And.intro rfl (And.intro rfl trivial))))))) (And.intro (And.intro rfl (And.intro rfl (And.intro rfl (And.intro rfl (And.intro rfl (And.intro rfl (And.intro rfl trivial))))))) trivial)) trivial rfl (fun _ => rfl) (fun _ => Or.inr (Flat.mk rfl trivial)) (fun y37 h38 h => ?_)
  refine PS.ite h (fun h39 h => ?_) (fun h39 h => ?_)
  · exact lf1 h fun e0 => Exists.intro [] (And.intro rfl (And.intro trivial (be e0)))
  refine PS.ite h (fun h40 h => ?_) (fun h40 h => ?_)
  · exact lf1 h fun e0 => Exists.intro [] (And.intro rfl (And.intro trivial (be e0)))
  refine CK.call false [] h (fun _ h => con_l_heldSave h) (And.intro (And.intro rfl (And.intro rfl (And.intro rfl (And.intro rfl (And.intro rfl (And.intro rfl (And.intro rfl trivial))))))) (And.intro rfl trivial)) trivial rfl (fun _ => rfl) (fun _ => Or.inr (Flat.mk rfl trivial)) (fun y41 h42 h => ?_)
  refine PS.ite h (fun h43 h => ?_) (fun h43 h => ?_)
  · exact lf1 h fun e0 => Exists.intro [] (And.intro rfl (And.intro trivial (be e0)))
  refine PS.ite h (fun h44 h => ?_) (fun h44 h => ?_)
  · exact lf1 h fun e0 => Exists.intro [] (And.intro rfl (And.intro trivial (be e0)))
  exact lf1 h fun e0 => Exists.intro [] (And.intro rfl (And.intro trivial (be e0)))
theorem con_l_szAccountS {a0 : (List MAccount)} {a1 : Int} {r0 : Int} (h : l_szAccountS a0 a1 = some r0) : Con Tryz.prog 95 [.sl 2 (List.map MAccount.av a0), .i .i64 a1] [] (.i .i64 r0) [] := by
  refine con_of_awpF hT mixed (fn := Tryz.f95) Tryz.func95 rfl rfl ?_
  unfold l_szAccountS at h
  refine HY.mk (fun _ => ?_)
  refine PS.ite h (fun h1 h => ?_) (fun h1 h => ?_)
  · exact lf1 h fun e0 => Exists.intro [] (And.intro rfl (And.intro trivial e0))
  exact lf1 h fun e0 => Exists.intro [] (And.intro rfl (And.intro trivial e0))
theorem con_l_szInstrS {a0 : (List MInstr)} {a1 : Int} {r0 : Int} (h : l_szInstrS a0 a1 = some r0) : Con Tryz.prog 96 [.sl 2 (List.map MInstr.av a0), .i .i64 a1] [] (.i .i64 r0) [] := by
  refine con_of_awpF hT mixed (fn := Tryz.f96) Tryz.func96 rfl rfl ?_
  unfold l_szInstrS at h
  refine HY.mk (fun _ => ?_)
  refine PS.ite h (fun h1 h => ?_) (fun h1 h => ?_)
  · exact lf1 h fun e0 => Exists.intro [] (And.intro rfl (And.intro trivial e0))
  exact lf1 h fun e0 => Exists.intro [] (And.intro rfl (And.intro trivial e0))
theorem con_l_szBalS {a0 : (List MBal)} {a1 : Int} {r0 : Int} (h : l_szBalS a0 a1 = some r0) : Con Tryz.prog 97 [.sl 3 (List.map MBal.av a0), .i .i64 a1] [] (.i .i64 r0) [] := by
  refine con_of_awpF hT mixed (fn := Tryz.f97) Tryz.func97 rfl rfl ?_
  unfold l_szBalS at h
  refine HY.mk (fun _ => ?_)
  refine PS.ite h (fun h1 h => ?_) (fun h1 h => ?_)
  · exact lf1 h fun e0 => Exists.intro [] (And.intro rfl (And.intro trivial e0))
  exact lf1 h fun e0 => Exists.intro [] (And.intro rfl (And.intro trivial e0))
theorem con_l_szLotS {a0 : (List MLot)} {a1 : Int} {r0 : Int} (h : l_szLotS a0 a1 = some r0) : Con Tryz.prog 98 [.sl 5 (List.map MLot.av a0), .i .i64 a1] [] (.i .i64 r0) [] := by
  refine con_of_awpF hT mixed (fn := Tryz.f98) Tryz.func98 rfl rfl ?_
  unfold l_szLotS at h
  refine HY.mk (fun _ => ?_)
  refine PS.ite h (fun h1 h => ?_) (fun h1 h => ?_)
  · exact lf1 h fun e0 => Exists.intro [] (And.intro rfl (And.intro trivial e0))
  exact lf1 h fun e0 => Exists.intro [] (And.intro rfl (And.intro trivial e0))
theorem con_l_szTradeS {a0 : (List MTrade)} {a1 : Int} {r0 : Int} (h : l_szTradeS a0 a1 = some r0) : Con Tryz.prog 99 [.sl 8 (List.map MTrade.av a0), .i .i64 a1] [] (.i .i64 r0) [] := by
  refine con_of_awpF hT mixed (fn := Tryz.f99) Tryz.func99 rfl rfl ?_
  unfold l_szTradeS at h
  refine HY.mk (fun _ => ?_)
  refine PS.ite h (fun h1 h => ?_) (fun h1 h => ?_)
  · exact lf1 h fun e0 => Exists.intro [] (And.intro rfl (And.intro trivial e0))
  exact lf1 h fun e0 => Exists.intro [] (And.intro rfl (And.intro trivial e0))
theorem con_l_szBooks {a0 : MBooks} {a1 : Int} {r0 : Int} (h : l_szBooks a0 a1 = some r0) : Con Tryz.prog 40 [.agg [.sl 2 (List.map MAccount.av a0.Accounts), .sl 2 (List.map MInstr.av a0.Instrs), .sl 3 (List.map MBal.av a0.Bals), .sl 5 (List.map MLot.av a0.Lots), .sl 8 (List.map MTrade.av a0.Trades), .i .i64 a0.Lot], .i .i64 a1] [] (.i .i64 r0) [] := by
  refine con_of_awpF hT mixed (fn := Tryz.f40) Tryz.func40 rfl rfl ?_
  unfold l_szBooks at h
  refine CK.call false [] h (fun _ h => con_l_szAccountS h) (And.intro rfl (And.intro rfl trivial)) trivial rfl (fun _ => rfl) (fun _ => Or.inl rfl) (fun y1 h2 h => ?_)
  refine PS.ite h (fun h3 h => ?_) (fun h3 h => ?_)
  · exact lf1 h fun e0 => Exists.intro [] (And.intro rfl (And.intro trivial e0))
  refine CK.call false [] h (fun _ h => con_l_szInstrS h) (And.intro rfl (And.intro rfl trivial)) trivial rfl (fun _ => rfl) (fun _ => Or.inl rfl) (fun y4 h5 h => ?_)
  refine PS.ite h (fun h6 h => ?_) (fun h6 h => ?_)
  · exact lf1 h fun e0 => Exists.intro [] (And.intro rfl (And.intro trivial e0))
  refine CK.call false [] h (fun _ h => con_l_szBalS h) (And.intro rfl (And.intro rfl trivial)) trivial rfl (fun _ => rfl) (fun _ => Or.inl rfl) (fun y7 h8 h => ?_)
  refine PS.ite h (fun h9 h => ?_) (fun h9 h => ?_)
  · exact lf1 h fun e0 => Exists.intro [] (And.intro rfl (And.intro trivial e0))
  refine CK.call false [] h (fun _ h => con_l_szLotS h) (And.intro rfl (And.intro rfl trivial)) trivial rfl (fun _ => rfl) (fun _ => Or.inl rfl) (fun y10 h11 h => ?_)
  refine PS.ite h (fun h12 h => ?_) (fun h12 h => ?_)
  · exact lf1 h fun e0 => Exists.intro [] (And.intro rfl (And.intro trivial e0))
  refine CK.call false [] h (fun _ h => con_l_szTradeS h) (And.intro rfl (And.intro rfl trivial)) trivial rfl (fun _ => rfl) (fun _ => Or.inl rfl) (fun y13 h14 h => ?_)
  refine PS.ite h (fun h15 h => ?_) (fun h15 h => ?_)
  · exact lf1 h fun e0 => Exists.intro [] (And.intro rfl (And.intro trivial e0))
  exact lf1 h fun e0 => Exists.intro [] (And.intro rfl (And.intro trivial e0))
theorem con_l_szSave {a0 : MSave} {a1 : Int} {r0 : Int} (h : l_szSave a0 a1 = some r0) : Con Tryz.prog 15 [.agg [.i .i64 a0.From, .sl 2 (List.map MAccount.av a0.Books.Accounts), .sl 2 (List.map MInstr.av a0.Books.Instrs), .sl 3 (List.map MBal.av a0.Books.Bals), .sl 5 (List.map MLot.av a0.Books.Lots), .sl 8 (List.map MTrade.av a0.Books.Trades), .i .i64 a0.Books.Lot], .i .i64 a1] [] (.i .i64 r0) [] := by
  refine con_of_awpF hT mixed (fn := Tryz.f15) Tryz.func15 rfl rfl ?_
  unfold l_szSave at h
  refine CK.call false [] h (fun _ h => con_l_szBooks h) (And.intro (And.intro rfl (And.intro rfl (And.intro rfl (And.intro rfl (And.intro rfl (And.intro rfl trivial)))))) (And.intro rfl trivial)) trivial rfl (fun _ => rfl) (fun _ => Or.inl rfl) (fun y1 h2 h => ?_)
  refine PS.ite h (fun h3 h => ?_) (fun h3 h => ?_)
  · exact lf1 h fun e0 => Exists.intro [] (And.intro rfl (And.intro trivial e0))
  exact lf1 h fun e0 => Exists.intro [] (And.intro rfl (And.intro trivial e0))
theorem con_l_toAccount {a0 : MAccount} {r0 : Int} {r1 : Int} (h : l_toAccount a0 = some (r0, r1)) : Con Tryz.prog 152 [.agg [.i .i64 a0.No, .i .i64 a0.Kind]] [] (.agg [.i .i64 r0, .i .i64 r1]) [] := by
  refine con_of_awpF hT mixed (fn := Tryz.f152) Tryz.func152 rfl rfl ?_
  unfold l_toAccount at h
  exact lf2 h fun e0 e1 => Exists.intro [] (And.intro rfl (And.intro trivial (And.intro e0 (And.intro e1 trivial))))
theorem con_l_toAccountS {a0 : (List MAccount)} {r0 : (List MAccount)} (h : l_toAccountS a0 = some r0) : Con Tryz.prog 109 [.sl 2 (List.map MAccount.av a0)] [] (.own 0) [some (.arr 2 (List.map MAccount.av r0))] := by
  refine con_of_awpF hT mixed (fn := Tryz.f109) Tryz.func109 rfl rfl ?_
  unfold l_toAccountS at h
  refine HY.mk (fun _ => ?_)
  refine OB.grd h (fun h1 h => ?_)
  refine RN.to (List.map MAccount.av (List.replicate (Int.toNat (ln (List.map MAccount.av a0))) (MAccount.mk (0 : Int) (0 : Int)))) (rep_map rfl) ?_
  refine LP.fuel (g := l_toAccountS_L1 a0 _) (fun (v11, v12) => ⟨[(0, .sl 2 (List.map MAccount.av a0)), (3, .own 0), (4, .i .i64 v12)], [some (.arr 2 (List.map MAccount.av v11))]⟩) h (fun _ h => by cases h) ?_ ?_
  · exact Exists.intro [.id 48] (And.intro rfl (And.intro (And.intro rfl trivial) (And.intro rfl (And.intro trivial (And.intro rfl trivial)))))
  intro n v h
  obtain ⟨v11, v12⟩ := v
  rw [l_toAccountS_L1.eq_2] at h
  refine HY.mk (fun _ => ?_)
  refine PS.ite h (fun h13 h => ?_) (fun h13 h => ?_)
  · refine OB.grd h (fun h14 h => ?_)
    refine EX.get h (fun x15 h16 h => ?_)
    refine CK.call false [] h (fun _ h => con_l_toAccount h) (And.intro (And.intro rfl (And.intro rfl trivial)) trivial) trivial rfl (fun _ => rfl) (fun _ => Or.inl rfl) (fun y17 h18 h => ?_)
    refine OB.grd h (fun h19 h => ?_)
    refine EX.get h (fun x20 h21 h => ?_)
    refine RN.to (List.map MAccount.av (List.set v11 (Int.toNat v12) (MAccount.mk y17.1 y17.2))) (set_map rfl) ?_
    refine NX.next h ?_
    exact Exists.intro [.id 0] (And.intro rfl (And.intro (And.intro rfl trivial) (And.intro rfl (And.intro trivial (And.intro rfl trivial)))))
  exact lf1 h fun e0 => Exists.intro [.id 0] (And.intro rfl (And.intro (And.intro (mpe e0) trivial) trivial))
theorem con_l_toInstr {a0 : MInstr} {r0 : Int} {r1 : Int} (h : l_toInstr a0 = some (r0, r1)) : Con Tryz.prog 153 [.agg [.i .i64 a0.No, .i .i64 a0.Kind]] [] (.agg [.i .i64 r0, .i .i64 r1]) [] := by
  refine con_of_awpF hT mixed (fn := Tryz.f153) Tryz.func153 rfl rfl ?_
  unfold l_toInstr at h
  exact lf2 h fun e0 e1 => Exists.intro [] (And.intro rfl (And.intro trivial (And.intro e0 (And.intro e1 trivial))))
theorem con_l_toInstrS {a0 : (List MInstr)} {r0 : (List MInstr)} (h : l_toInstrS a0 = some r0) : Con Tryz.prog 110 [.sl 2 (List.map MInstr.av a0)] [] (.own 0) [some (.arr 2 (List.map MInstr.av r0))] := by
  refine con_of_awpF hT mixed (fn := Tryz.f110) Tryz.func110 rfl rfl ?_
  unfold l_toInstrS at h
  refine HY.mk (fun _ => ?_)
  refine OB.grd h (fun h1 h => ?_)
  refine RN.to (List.map MInstr.av (List.replicate (Int.toNat (ln (List.map MInstr.av a0))) (MInstr.mk (0 : Int) (0 : Int)))) (rep_map rfl) ?_
  refine LP.fuel (g := l_toInstrS_L1 a0 _) (fun (v11, v12) => ⟨[(0, .sl 2 (List.map MInstr.av a0)), (3, .own 0), (4, .i .i64 v12)], [some (.arr 2 (List.map MInstr.av v11))]⟩) h (fun _ h => by cases h) ?_ ?_
  · exact Exists.intro [.id 48] (And.intro rfl (And.intro (And.intro rfl trivial) (And.intro rfl (And.intro trivial (And.intro rfl trivial)))))
  intro n v h
  obtain ⟨v11, v12⟩ := v
  rw [l_toInstrS_L1.eq_2] at h
  refine HY.mk (fun _ => ?_)
  refine PS.ite h (fun h13 h => ?_) (fun h13 h => ?_)
  · refine OB.grd h (fun h14 h => ?_)
    refine EX.get h (fun x15 h16 h => ?_)
    refine CK.call false [] h (fun _ h => con_l_toInstr h) (And.intro (And.intro rfl (And.intro rfl trivial)) trivial) trivial rfl (fun _ => rfl) (fun _ => Or.inl rfl) (fun y17 h18 h => ?_)
    refine OB.grd h (fun h19 h => ?_)
    refine EX.get h (fun x20 h21 h => ?_)
    refine RN.to (List.map MInstr.av (List.set v11 (Int.toNat v12) (MInstr.mk y17.1 y17.2))) (set_map rfl) ?_
    refine NX.next h ?_
    exact Exists.intro [.id 0] (And.intro rfl (And.intro (And.intro rfl trivial) (And.intro rfl (And.intro trivial (And.intro rfl trivial)))))
  exact lf1 h fun e0 => Exists.intro [.id 0] (And.intro rfl (And.intro (And.intro (mpe e0) trivial) trivial))
theorem con_l_toBal {a0 : MBal} {r0 : Int} {r1 : Int} {r2 : Int} (h : l_toBal a0 = some (r0, r1, r2)) : Con Tryz.prog 154 [.agg [.i .i64 a0.Account, .i .i64 a0.Instr, .i .i64 a0.Amount]] [] (.agg [.i .i64 r0, .i .i64 r1, .i .i64 r2]) [] := by
  refine con_of_awpF hT mixed (fn := Tryz.f154) Tryz.func154 rfl rfl ?_
  unfold l_toBal at h
  exact lf3 h fun e0 e1 e2 => Exists.intro [] (And.intro rfl (And.intro trivial (And.intro e0 (And.intro e1 (And.intro e2 trivial)))))
theorem con_l_toBalS {a0 : (List MBal)} {r0 : (List MBal)} (h : l_toBalS a0 = some r0) : Con Tryz.prog 111 [.sl 3 (List.map MBal.av a0)] [] (.own 0) [some (.arr 3 (List.map MBal.av r0))] := by
  refine con_of_awpF hT mixed (fn := Tryz.f111) Tryz.func111 rfl rfl ?_
  unfold l_toBalS at h
  refine HY.mk (fun _ => ?_)
  refine OB.grd h (fun h1 h => ?_)
  refine RN.to (List.map MBal.av (List.replicate (Int.toNat (ln (List.map MBal.av a0))) (MBal.mk (0 : Int) (0 : Int) (0 : Int)))) (rep_map rfl) ?_
  refine LP.fuel (g := l_toBalS_L1 a0 _) (fun (v11, v12) => ⟨[(0, .sl 3 (List.map MBal.av a0)), (3, .own 0), (4, .i .i64 v12)], [some (.arr 3 (List.map MBal.av v11))]⟩) h (fun _ h => by cases h) ?_ ?_
  · exact Exists.intro [.id 48] (And.intro rfl (And.intro (And.intro rfl trivial) (And.intro rfl (And.intro trivial (And.intro rfl trivial)))))
  intro n v h
  obtain ⟨v11, v12⟩ := v
  rw [l_toBalS_L1.eq_2] at h
  refine HY.mk (fun _ => ?_)
  refine PS.ite h (fun h13 h => ?_) (fun h13 h => ?_)
  · refine OB.grd h (fun h14 h => ?_)
    refine EX.get h (fun x15 h16 h => ?_)
    refine CK.call false [] h (fun _ h => con_l_toBal h) (And.intro (And.intro rfl (And.intro rfl (And.intro rfl trivial))) trivial) trivial rfl (fun _ => rfl) (fun _ => Or.inl rfl) (fun y17 h18 h => ?_)
    refine OB.grd h (fun h19 h => ?_)
    refine EX.get h (fun x20 h21 h => ?_)
    refine RN.to (List.map MBal.av (List.set v11 (Int.toNat v12) (MBal.mk y17.1 y17.2.1 y17.2.2))) (set_map rfl) ?_
    refine NX.next h ?_
    exact Exists.intro [.id 0] (And.intro rfl (And.intro (And.intro rfl trivial) (And.intro rfl (And.intro trivial (And.intro rfl trivial)))))
  exact lf1 h fun e0 => Exists.intro [.id 0] (And.intro rfl (And.intro (And.intro (mpe e0) trivial) trivial))
theorem con_l_toLot {a0 : MLot} {r0 : Int} {r1 : Int} {r2 : Int} {r3 : Int} {r4 : Int} (h : l_toLot a0 = some (r0, r1, r2, r3, r4)) : Con Tryz.prog 155 [.agg [.i .i64 a0.Account, .i .i64 a0.Instr, .i .i64 a0.No, .i .i64 a0.Qty, .i .i64 a0.Cost]] [] (.agg [.i .i64 r0, .i .i64 r1, .i .i64 r2, .i .i64 r3, .i .i64 r4]) [] := by
  refine con_of_awpF hT mixed (fn := Tryz.f155) Tryz.func155 rfl rfl ?_
  unfold l_toLot at h
  exact lf5 h fun e0 e1 e2 e3 e4 => Exists.intro [] (And.intro rfl (And.intro trivial (And.intro e0 (And.intro e1 (And.intro e2 (And.intro e3 (And.intro e4 trivial)))))))
theorem con_l_toLotS {a0 : (List MLot)} {r0 : (List MLot)} (h : l_toLotS a0 = some r0) : Con Tryz.prog 112 [.sl 5 (List.map MLot.av a0)] [] (.own 0) [some (.arr 5 (List.map MLot.av r0))] := by
  refine con_of_awpF hT mixed (fn := Tryz.f112) Tryz.func112 rfl rfl ?_
  unfold l_toLotS at h
  refine HY.mk (fun _ => ?_)
  refine OB.grd h (fun h1 h => ?_)
  refine RN.to (List.map MLot.av (List.replicate (Int.toNat (ln (List.map MLot.av a0))) (MLot.mk (0 : Int) (0 : Int) (0 : Int) (0 : Int) (0 : Int)))) (rep_map rfl) ?_
  refine LP.fuel (g := l_toLotS_L1 a0 _) (fun (v11, v12) => ⟨[(0, .sl 5 (List.map MLot.av a0)), (3, .own 0), (4, .i .i64 v12)], [some (.arr 5 (List.map MLot.av v11))]⟩) h (fun _ h => by cases h) ?_ ?_
  · exact Exists.intro [.id 48] (And.intro rfl (And.intro (And.intro rfl trivial) (And.intro rfl (And.intro trivial (And.intro rfl trivial)))))
  intro n v h
  obtain ⟨v11, v12⟩ := v
  rw [l_toLotS_L1.eq_2] at h
  refine HY.mk (fun _ => ?_)
  refine PS.ite h (fun h13 h => ?_) (fun h13 h => ?_)
  · refine OB.grd h (fun h14 h => ?_)
    refine EX.get h (fun x15 h16 h => ?_)
    refine CK.call false [] h (fun _ h => con_l_toLot h) (And.intro (And.intro rfl (And.intro rfl (And.intro rfl (And.intro rfl (And.intro rfl trivial))))) trivial) trivial rfl (fun _ => rfl) (fun _ => Or.inl rfl) (fun y17 h18 h => ?_)
    refine OB.grd h (fun h19 h => ?_)
    refine EX.get h (fun x20 h21 h => ?_)
    refine RN.to (List.map MLot.av (List.set v11 (Int.toNat v12) (MLot.mk y17.1 y17.2.1 y17.2.2.1 y17.2.2.2.1 y17.2.2.2.2))) (set_map rfl) ?_
    refine NX.next h ?_
    exact Exists.intro [.id 0] (And.intro rfl (And.intro (And.intro rfl trivial) (And.intro rfl (And.intro trivial (And.intro rfl trivial)))))
  exact lf1 h fun e0 => Exists.intro [.id 0] (And.intro rfl (And.intro (And.intro (mpe e0) trivial) trivial))
theorem con_l_toTrade {a0 : MTrade} {r0 : Int} {r1 : Int} {r2 : Int} {r3 : Int} {r4 : Int} {r5 : Int} {r6 : Int} {r7 : Int} (h : l_toTrade a0 = some (r0, r1, r2, r3, r4, r5, r6, r7)) : Con Tryz.prog 156 [.agg [.i .i64 a0.No, .i .i64 a0.Buyer, .i .i64 a0.Seller, .i .i64 a0.Paper, .i .i64 a0.Qty, .i .i64 a0.Cash, .i .i64 a0.Price, .i .i64 a0.State]] [] (.agg [.i .i64 r0, .i .i64 r1, .i .i64 r2, .i .i64 r3, .i .i64 r4, .i .i64 r5, .i .i64 r6, .i .i64 r7]) [] := by
  refine con_of_awpF hT mixed (fn := Tryz.f156) Tryz.func156 rfl rfl ?_
  unfold l_toTrade at h
  exact lf8 h fun e0 e1 e2 e3 e4 e5 e6 e7 => Exists.intro [] (And.intro rfl (And.intro trivial (And.intro e0 (And.intro e1 (And.intro e2 (And.intro e3 (And.intro e4 (And.intro e5 (And.intro e6 (And.intro e7 trivial))))))))))
theorem con_l_toTradeS {a0 : (List MTrade)} {r0 : (List MTrade)} (h : l_toTradeS a0 = some r0) : Con Tryz.prog 113 [.sl 8 (List.map MTrade.av a0)] [] (.own 0) [some (.arr 8 (List.map MTrade.av r0))] := by
  refine con_of_awpF hT mixed (fn := Tryz.f113) Tryz.func113 rfl rfl ?_
  unfold l_toTradeS at h
  refine HY.mk (fun _ => ?_)
  refine OB.grd h (fun h1 h => ?_)
  refine RN.to (List.map MTrade.av (List.replicate (Int.toNat (ln (List.map MTrade.av a0))) (MTrade.mk (0 : Int) (0 : Int) (0 : Int) (0 : Int) (0 : Int) (0 : Int) (0 : Int) (0 : Int)))) (rep_map rfl) ?_
  refine LP.fuel (g := l_toTradeS_L1 a0 _) (fun (v11, v12) => ⟨[(0, .sl 8 (List.map MTrade.av a0)), (3, .own 0), (4, .i .i64 v12)], [some (.arr 8 (List.map MTrade.av v11))]⟩) h (fun _ h => by cases h) ?_ ?_
  · exact Exists.intro [.id 48] (And.intro rfl (And.intro (And.intro rfl trivial) (And.intro rfl (And.intro trivial (And.intro rfl trivial)))))
  intro n v h
  obtain ⟨v11, v12⟩ := v
  rw [l_toTradeS_L1.eq_2] at h
  refine HY.mk (fun _ => ?_)
  refine PS.ite h (fun h13 h => ?_) (fun h13 h => ?_)
  · refine OB.grd h (fun h14 h => ?_)
    refine EX.get h (fun x15 h16 h => ?_)
    refine CK.call false [] h (fun _ h => con_l_toTrade h) (And.intro (And.intro rfl (And.intro rfl (And.intro rfl (And.intro rfl (And.intro rfl (And.intro rfl (And.intro rfl (And.intro rfl trivial)))))))) trivial) trivial rfl (fun _ => rfl) (fun _ => Or.inl rfl) (fun y17 h18 h => ?_)
    refine OB.grd h (fun h19 h => ?_)
    refine EX.get h (fun x20 h21 h => ?_)
    refine RN.to (List.map MTrade.av (List.set v11 (Int.toNat v12) (MTrade.mk y17.1 y17.2.1 y17.2.2.1 y17.2.2.2.1 y17.2.2.2.2.1 y17.2.2.2.2.2.1 y17.2.2.2.2.2.2.1 y17.2.2.2.2.2.2.2))) (set_map rfl) ?_
    refine NX.next h ?_
    exact Exists.intro [.id 0] (And.intro rfl (And.intro (And.intro rfl trivial) (And.intro rfl (And.intro trivial (And.intro rfl trivial)))))
  exact lf1 h fun e0 => Exists.intro [.id 0] (And.intro rfl (And.intro (And.intro (mpe e0) trivial) trivial))
theorem con_l_toBooks {a0 : MBooks} {r0 : (List MAccount)} {r1 : (List MInstr)} {r2 : (List MBal)} {r3 : (List MLot)} {r4 : (List MTrade)} {r5 : Int} (h : l_toBooks a0 = some (r0, r1, r2, r3, r4, r5)) : Con Tryz.prog 51 [.agg [.sl 2 (List.map MAccount.av a0.Accounts), .sl 2 (List.map MInstr.av a0.Instrs), .sl 3 (List.map MBal.av a0.Bals), .sl 5 (List.map MLot.av a0.Lots), .sl 8 (List.map MTrade.av a0.Trades), .i .i64 a0.Lot]] [] (.agg [.own 0, .own 1, .own 2, .own 3, .own 4, .i .i64 r5]) [some (.arr 2 (List.map MAccount.av r0)), some (.arr 2 (List.map MInstr.av r1)), some (.arr 3 (List.map MBal.av r2)), some (.arr 5 (List.map MLot.av r3)), some (.arr 8 (List.map MTrade.av r4))] := by
  refine con_of_awpF hT mixed (fn := Tryz.f51) Tryz.func51 rfl rfl ?_
  unfold l_toBooks at h
  refine CK.call false [] h (fun _ h => con_l_toAccountS h) (And.intro rfl trivial) trivial rfl (fun _ => rfl) (fun _ => Or.inl rfl) (fun y1 h2 h => ?_)
  refine RN.mk ?_
  refine CK.call false [] h (fun _ h => con_l_toInstrS h) (And.intro rfl trivial) trivial rfl (fun _ => rfl) (fun _ => Or.inl rfl) (fun y3 h4 h => ?_)
  refine RN.mk ?_
  refine CK.call false [] h (fun _ h => con_l_toBalS h) (And.intro rfl trivial) trivial rfl (fun _ => rfl) (fun _ => Or.inl rfl) (fun y5 h6 h => ?_)
  refine RN.mk ?_
  refine CK.call false [] h (fun _ h => con_l_toLotS h) (And.intro rfl trivial) trivial rfl (fun _ => rfl) (fun _ => Or.inl rfl) (fun y7 h8 h => ?_)
  refine RN.mk ?_
  refine CK.call false [] h (fun _ h => con_l_toTradeS h) (And.intro rfl trivial) trivial rfl (fun _ => rfl) (fun _ => Or.inl rfl) (fun y9 h10 h => ?_)
  refine RN.mk ?_
  exact lf6 h fun e0 e1 e2 e3 e4 e5 => Exists.intro [.id 80, .id 160, .id 240, .id 320, .id 400] (And.intro rfl (And.intro (And.intro (mpe e0) (And.intro (mpe e1) (And.intro (mpe e2) (And.intro (mpe e3) (And.intro (mpe e4) trivial))))) (And.intro trivial (And.intro trivial (And.intro trivial (And.intro trivial (And.intro trivial (And.intro e5 trivial))))))))
theorem con_l_toSave {a0 : MSave} {r0 : Int} {r1 : (List MAccount)} {r2 : (List MInstr)} {r3 : (List MBal)} {r4 : (List MLot)} {r5 : (List MTrade)} {r6 : Int} (h : l_toSave a0 = some (r0, r1, r2, r3, r4, r5, r6)) : Con Tryz.prog 17 [.agg [.i .i64 a0.From, .sl 2 (List.map MAccount.av a0.Books.Accounts), .sl 2 (List.map MInstr.av a0.Books.Instrs), .sl 3 (List.map MBal.av a0.Books.Bals), .sl 5 (List.map MLot.av a0.Books.Lots), .sl 8 (List.map MTrade.av a0.Books.Trades), .i .i64 a0.Books.Lot]] [] (.agg [.i .i64 r0, .own 0, .own 1, .own 2, .own 3, .own 4, .i .i64 r6]) [some (.arr 2 (List.map MAccount.av r1)), some (.arr 2 (List.map MInstr.av r2)), some (.arr 3 (List.map MBal.av r3)), some (.arr 5 (List.map MLot.av r4)), some (.arr 8 (List.map MTrade.av r5))] := by
  refine con_of_awpF hT mixed (fn := Tryz.f17) Tryz.func17 rfl rfl ?_
  unfold l_toSave at h
  refine CK.call false [] h (fun _ h => con_l_toBooks h) (And.intro (And.intro rfl (And.intro rfl (And.intro rfl (And.intro rfl (And.intro rfl (And.intro rfl trivial)))))) trivial) trivial rfl (fun _ => rfl) (fun _ => Or.inl rfl) (fun y1 h2 h => ?_)
  refine RN.mk ?_
  refine RN.mk ?_
  refine RN.mk ?_
  refine RN.mk ?_
  refine RN.mk ?_
  exact lf7 h fun e0 e1 e2 e3 e4 e5 e6 => Exists.intro [.id 144, .id 145, .id 146, .id 147, .id 148] (And.intro rfl (And.intro (And.intro (mpe e1) (And.intro (mpe e2) (And.intro (mpe e3) (And.intro (mpe e4) (And.intro (mpe e5) trivial))))) (And.intro e0 (And.intro trivial (And.intro trivial (And.intro trivial (And.intro trivial (And.intro trivial (And.intro e6 trivial)))))))))
theorem con_s_l13Nums {a0 : MBooks} {r0 : (List Int)} (h : s_l13Nums a0 = some r0) : Con Tryz.prog 151 [.agg [.sl 2 (List.map MAccount.av a0.Accounts), .sl 2 (List.map MInstr.av a0.Instrs), .sl 3 (List.map MBal.av a0.Bals), .sl 5 (List.map MLot.av a0.Lots), .sl 8 (List.map MTrade.av a0.Trades), .i .i64 a0.Lot]] [] (.own 0) [some (.arr 1 (List.map iv r0))] := by
  refine con_of_awpF hT mixed (fn := Tryz.f151) Tryz.func151 rfl rfl ?_
  unfold s_l13Nums at h
  refine HY.mk (fun _ => ?_)
  refine RN.to (List.map iv [(ln (List.map MAccount.av a0.Accounts))]) rfl ?_
  refine LP.fuel (g := s_l13Nums_L1 a0 _) (fun (v6, v7) => ⟨[(1, .ptr 0 0), (3, .own 1), (4, .i .i64 v7)], [some (.box [.sl 2 (List.map MAccount.av a0.Accounts), .sl 2 (List.map MInstr.av a0.Instrs), .sl 3 (List.map MBal.av a0.Bals), .sl 5 (List.map MLot.av a0.Lots), .sl 8 (List.map MTrade.av a0.Trades), .i .i64 a0.Lot]), some (.arr 1 (List.map iv v6))]⟩) h (fun _ h => by cases h) ?_ ?_
  · exact Exists.intro [.id 0, .id 80] (And.intro rfl (And.intro (And.intro (And.intro rfl (And.intro rfl (And.intro rfl (And.intro rfl (And.intro rfl (And.intro rfl trivial)))))) (And.intro rfl trivial)) (And.intro trivial (And.intro trivial (And.intro rfl trivial)))))
  intro n v h
  obtain ⟨v6, v7⟩ := v
  rw [s_l13Nums_L1.eq_2] at h
  refine HY.mk (fun _ => ?_)
  refine PS.ite h (fun h8 h => ?_) (fun h8 h => ?_)
  · refine OB.grd h (fun h9 h => ?_)
    refine EX.get h (fun x10 h11 h => ?_)
    refine OB.mk h9 ?_
    refine EX.pos h11 ?_
    refine RN.to (List.map iv [x10.No, x10.Kind]) rfl ?_
    refine OB.app (enc := iv) (l := [x10.No, x10.Kind]) rfl (fun _ => rfl) h (fun h12 h => ?_)
    refine RN.to (List.map iv (v6 ++ [x10.No, x10.Kind])) List.map_append.symm ?_
    refine OB.mk (by kernel_rfl) ?_
    refine NX.next h ?_
    exact Exists.intro [.id 0, .id 306] (And.intro rfl (And.intro (And.intro (And.intro rfl (And.intro rfl (And.intro rfl (And.intro rfl (And.intro rfl (And.intro rfl trivial)))))) (And.intro rfl trivial)) (And.intro trivial (And.intro trivial (And.intro rfl trivial)))))
  refine HY.mk (fun _ => ?_)
  refine RN.to (List.map iv [(ln (List.map MInstr.av a0.Instrs))]) rfl ?_
  refine OB.app (enc := iv) (l := [(ln (List.map MInstr.av a0.Instrs))]) rfl (fun _ => rfl) h (fun h14 h => ?_)
  refine RN.to (List.map iv (v6 ++ [(ln (List.map MInstr.av a0.Instrs))])) List.map_append.symm ?_
  refine LP.fuel (g := s_l13Nums_L2 a0 _) (fun (v20, v21) => ⟨[(1, .ptr 0 0), (3, .own 1), (5, .i .i64 v21)], [some (.box [.sl 2 (List.map MAccount.av a0.Accounts), .sl 2 (List.map MInstr.av a0.Instrs), .sl 3 (List.map MBal.av a0.Bals), .sl 5 (List.map MLot.av a0.Lots), .sl 8 (List.map MTrade.av a0.Trades), .i .i64 a0.Lot]), some (.arr 1 (List.map iv v20))]⟩) h (fun _ h => by cases h) ?_ ?_
  · exact Exists.intro [.id 0, .id 162] (And.intro rfl (And.intro (And.intro (And.intro rfl (And.intro rfl (And.intro rfl (And.intro rfl (And.intro rfl (And.intro rfl trivial)))))) (And.intro rfl trivial)) (And.intro trivial (And.intro trivial (And.intro rfl trivial)))))
  intro n v h
  obtain ⟨v20, v21⟩ := v
  rw [s_l13Nums_L2.eq_2] at h
  refine HY.mk (fun _ => ?_)
  refine PS.ite h (fun h22 h => ?_) (fun h22 h => ?_)
  · refine OB.grd h (fun h23 h => ?_)
    refine EX.get h (fun x24 h25 h => ?_)
    refine OB.mk h23 ?_
    refine EX.pos h25 ?_
    refine RN.to (List.map iv [x24.No, x24.Kind]) rfl ?_
    refine OB.app (enc := iv) (l := [x24.No, x24.Kind]) rfl (fun _ => rfl) h (fun h26 h => ?_)
    refine RN.to (List.map iv (v20 ++ [x24.No, x24.Kind])) List.map_append.symm ?_
    refine OB.mk (by kernel_rfl) ?_
    refine NX.next h ?_
    exact Exists.intro [.id 0, .id 306] (And.intro rfl (And.intro (And.intro (And.intro rfl (And.intro rfl (And.intro rfl (And.intro rfl (And.intro rfl (And.intro rfl trivial)))))) (And.intro rfl trivial)) (And.intro trivial (And.intro trivial (And.intro rfl trivial)))))
  refine HY.mk (fun _ => ?_)
  refine RN.to (List.map iv [(ln (List.map MBal.av a0.Bals))]) rfl ?_
  refine OB.app (enc := iv) (l := [(ln (List.map MBal.av a0.Bals))]) rfl (fun _ => rfl) h (fun h28 h => ?_)
  refine RN.to (List.map iv (v20 ++ [(ln (List.map MBal.av a0.Bals))])) List.map_append.symm ?_
  refine LP.fuel (g := s_l13Nums_L3 a0 _) (fun (v34, v35) => ⟨[(1, .ptr 0 0), (3, .own 1), (6, .i .i64 v35)], [some (.box [.sl 2 (List.map MAccount.av a0.Accounts), .sl 2 (List.map MInstr.av a0.Instrs), .sl 3 (List.map MBal.av a0.Bals), .sl 5 (List.map MLot.av a0.Lots), .sl 8 (List.map MTrade.av a0.Trades), .i .i64 a0.Lot]), some (.arr 1 (List.map iv v34))]⟩) h (fun _ h => by cases h) ?_ ?_
  · exact Exists.intro [.id 0, .id 162] (And.intro rfl (And.intro (And.intro (And.intro rfl (And.intro rfl (And.intro rfl (And.intro rfl (And.intro rfl (And.intro rfl trivial)))))) (And.intro rfl trivial)) (And.intro trivial (And.intro trivial (And.intro rfl trivial)))))
  intro n v h
  obtain ⟨v34, v35⟩ := v
  rw [s_l13Nums_L3.eq_2] at h
  refine HY.mk (fun _ => ?_)
  refine PS.ite h (fun h36 h => ?_) (fun h36 h => ?_)
  · refine OB.grd h (fun h37 h => ?_)
    refine EX.get h (fun x38 h39 h => ?_)
    refine OB.mk h37 ?_
    refine EX.pos h39 ?_
    refine OB.mk h37 ?_
    refine EX.pos h39 ?_
    refine RN.to (List.map iv [x38.Account, x38.Instr, w64 (x38.Amount + (1000000000000000 : Int))]) rfl ?_
    refine OB.app (enc := iv) (l := [x38.Account, x38.Instr, w64 (x38.Amount + (1000000000000000 : Int))]) rfl (fun _ => rfl) h (fun h40 h => ?_)
    refine RN.to (List.map iv (v34 ++ [x38.Account, x38.Instr, w64 (x38.Amount + (1000000000000000 : Int))])) List.map_append.symm ?_
    refine OB.mk (by kernel_rfl) ?_
    refine NX.next h ?_
    exact Exists.intro [.id 0, .id 418] (And.intro rfl (And.intro (And.intro (And.intro rfl (And.intro rfl (And.intro rfl (And.intro rfl (And.intro rfl (And.intro rfl trivial)))))) (And.intro rfl trivial)) (And.intro trivial (And.intro trivial (And.intro rfl trivial)))))
  refine HY.mk (fun _ => ?_)
  refine RN.to (List.map iv [(ln (List.map MLot.av a0.Lots))]) rfl ?_
  refine OB.app (enc := iv) (l := [(ln (List.map MLot.av a0.Lots))]) rfl (fun _ => rfl) h (fun h42 h => ?_)
  refine RN.to (List.map iv (v34 ++ [(ln (List.map MLot.av a0.Lots))])) List.map_append.symm ?_
  refine LP.fuel (g := s_l13Nums_L4 a0 _) (fun (v48, v49) => ⟨[(1, .ptr 0 0), (3, .own 1), (7, .i .i64 v49)], [some (.box [.sl 2 (List.map MAccount.av a0.Accounts), .sl 2 (List.map MInstr.av a0.Instrs), .sl 3 (List.map MBal.av a0.Bals), .sl 5 (List.map MLot.av a0.Lots), .sl 8 (List.map MTrade.av a0.Trades), .i .i64 a0.Lot]), some (.arr 1 (List.map iv v48))]⟩) h (fun _ h => by cases h) ?_ ?_
  · exact Exists.intro [.id 0, .id 162] (And.intro rfl (And.intro (And.intro (And.intro rfl (And.intro rfl (And.intro rfl (And.intro rfl (And.intro rfl (And.intro rfl trivial)))))) (And.intro rfl trivial)) (And.intro trivial (And.intro trivial (And.intro rfl trivial)))))
  intro n v h
  obtain ⟨v48, v49⟩ := v
  rw [s_l13Nums_L4.eq_2] at h
  refine HY.mk (fun _ => ?_)
  refine PS.ite h (fun h50 h => ?_) (fun h50 h => ?_)
  · refine OB.grd h (fun h51 h => ?_)
    refine EX.get h (fun x52 h53 h => ?_)
    refine RN.to (List.map iv [x52.Account, x52.Instr, x52.No, x52.Qty, x52.Cost]) rfl ?_
    refine OB.app (enc := iv) (l := [x52.Account, x52.Instr, x52.No, x52.Qty, x52.Cost]) rfl (fun _ => rfl) h (fun h54 h => ?_)
    refine RN.to (List.map iv (v48 ++ [x52.Account, x52.Instr, x52.No, x52.Qty, x52.Cost])) List.map_append.symm ?_
    refine NX.next h ?_
    exact Exists.intro [.id 0, .id 386] (And.intro rfl (And.intro (And.intro (And.intro rfl (And.intro rfl (And.intro rfl (And.intro rfl (And.intro rfl (And.intro rfl trivial)))))) (And.intro rfl trivial)) (And.intro trivial (And.intro trivial (And.intro rfl trivial)))))
  refine HY.mk (fun _ => ?_)
  refine RN.to (List.map iv [(ln (List.map MTrade.av a0.Trades))]) rfl ?_
  refine OB.app (enc := iv) (l := [(ln (List.map MTrade.av a0.Trades))]) rfl (fun _ => rfl) h (fun h56 h => ?_)
  refine RN.to (List.map iv (v48 ++ [(ln (List.map MTrade.av a0.Trades))])) List.map_append.symm ?_
  refine LP.fuel (g := s_l13Nums_L5 a0 _) (fun (v62, v63) => ⟨[(1, .ptr 0 0), (3, .own 1), (9, .i .i64 v63)], [some (.box [.sl 2 (List.map MAccount.av a0.Accounts), .sl 2 (List.map MInstr.av a0.Instrs), .sl 3 (List.map MBal.av a0.Bals), .sl 5 (List.map MLot.av a0.Lots), .sl 8 (List.map MTrade.av a0.Trades), .i .i64 a0.Lot]), some (.arr 1 (List.map iv v62))]⟩) h (fun _ h => by cases h) ?_ ?_
  · exact Exists.intro [.id 0, .id 162] (And.intro rfl (And.intro (And.intro (And.intro rfl (And.intro rfl (And.intro rfl (And.intro rfl (And.intro rfl (And.intro rfl trivial)))))) (And.intro rfl trivial)) (And.intro trivial (And.intro trivial (And.intro rfl trivial)))))
  intro n v h
  obtain ⟨v62, v63⟩ := v
  rw [s_l13Nums_L5.eq_2] at h
  refine HY.mk (fun _ => ?_)
  refine PS.ite h (fun h64 h => ?_) (fun h64 h => ?_)
  · refine OB.grd h (fun h65 h => ?_)
    refine EX.get h (fun x66 h67 h => ?_)
    refine RN.to (List.map iv [x66.No, x66.Buyer, x66.Seller, x66.Paper, x66.Qty, x66.Cash, x66.Price, x66.State]) rfl ?_
    refine OB.app (enc := iv) (l := [x66.No, x66.Buyer, x66.Seller, x66.Paper, x66.Qty, x66.Cash, x66.Price, x66.State]) rfl (fun _ => rfl) h (fun h68 h => ?_)
    refine RN.to (List.map iv (v62 ++ [x66.No, x66.Buyer, x66.Seller, x66.Paper, x66.Qty, x66.Cash, x66.Price, x66.State])) List.map_append.symm ?_
    refine NX.next h ?_
    exact Exists.intro [.id 0, .id 482] (And.intro rfl (And.intro (And.intro (And.intro rfl (And.intro rfl (And.intro rfl (And.intro rfl (And.intro rfl (And.intro rfl trivial)))))) (And.intro rfl trivial)) (And.intro trivial (And.intro trivial (And.intro rfl trivial)))))
  refine RN.to (List.map iv [a0.Lot]) rfl ?_
  refine OB.app (enc := iv) (l := [a0.Lot]) rfl (fun _ => rfl) h (fun h70 h => ?_)
  refine RN.to (List.map iv (v62 ++ [a0.Lot])) List.map_append.symm ?_
  exact lf1 h fun e0 => Exists.intro [.id 146] (And.intro rfl (And.intro (And.intro (mpe e0) trivial) trivial))
theorem con_s_PutNum {a0 : Int} {r0 : (List UInt8)} (h : s_PutNum a0 = some r0) : Con Tryz.prog 102 [.i .i64 a0] [] (.own 0) [some (.arr 1 (List.map u8 r0))] := by
  refine con_of_awpF hT mixed (fn := Tryz.f102) Tryz.func102 rfl rfl ?_
  unfold s_PutNum at h
  refine RN.to (List.map u8 ([] : List UInt8)) rfl ?_
  refine PS.ite h (fun h1 h => ?_) (fun h1 h => ?_)
  · exact lf1 h fun e0 => Exists.intro [.id 16] (And.intro rfl (And.intro (And.intro (mpe e0) trivial) trivial))
  refine LP.fuel (g := s_PutNum_L1 _) (fun (v4, v5) => ⟨[(0, .i .i64 v4), (3, .own 0)], [some (.arr 1 (List.map u8 v5))]⟩) h (fun _ h => by cases h) ?_ ?_
  · exact Exists.intro [.id 16] (And.intro rfl (And.intro (And.intro rfl trivial) (And.intro rfl (And.intro trivial trivial))))
  intro n v h
  obtain ⟨v4, v5⟩ := v
  rw [s_PutNum_L1.eq_2] at h
  refine PS.ite h (fun h6 h => ?_) (fun h6 h => ?_)
  · refine RN.to (List.map u8 [(byteOf (w64 ((Int.tmod v4 (128 : Int)) + (128 : Int))))]) ((consE (u8_of _) rfl)) ?_
    refine OB.app (enc := u8) (l := [(byteOf (w64 ((Int.tmod v4 (128 : Int)) + (128 : Int))))]) rfl (fun _ => rfl) h (fun h7 h => ?_)
    refine RN.to (List.map u8 (v5 ++ [(byteOf (w64 ((Int.tmod v4 (128 : Int)) + (128 : Int))))])) List.map_append.symm ?_
    refine NX.next h ?_
    exact Exists.intro [.id 129] (And.intro rfl (And.intro (And.intro rfl trivial) (And.intro rfl (And.intro trivial trivial))))
  refine RN.to (List.map u8 [(byteOf v4)]) ((consE (u8_of _) rfl)) ?_
  refine OB.app (enc := u8) (l := [(byteOf v4)]) rfl (fun _ => rfl) h (fun h10 h => ?_)
  refine RN.to (List.map u8 (v5 ++ [(byteOf v4)])) List.map_append.symm ?_
  exact lf1 h fun e0 => Exists.intro [.id 97] (And.intro rfl (And.intro (And.intro (mpe e0) trivial) trivial))
theorem con_s_PutNums {a0 : (List Int)} {r0 : (List UInt8)} (h : s_PutNums a0 = some r0) : Con Tryz.prog 150 [.sl 1 (List.map iv a0)] [] (.own 0) [some (.arr 1 (List.map u8 r0))] := by
  refine con_of_awpF hT mixed (fn := Tryz.f150) Tryz.func150 rfl rfl ?_
  unfold s_PutNums at h
  refine RN.to (List.map u8 ([] : List UInt8)) rfl ?_
  refine LP.fuel (g := s_PutNums_L1 a0 _) (fun (v9, v10) => ⟨[(0, .sl 1 (List.map iv a0)), (3, .own 0), (4, .i .i64 v10)], [some (.arr 1 (List.map u8 v9))]⟩) h (fun _ h => by cases h) ?_ ?_
  · exact Exists.intro [.id 16] (And.intro rfl (And.intro (And.intro rfl trivial) (And.intro rfl (And.intro trivial (And.intro rfl trivial)))))
  intro n v h
  obtain ⟨v9, v10⟩ := v
  rw [s_PutNums_L1.eq_2] at h
  refine HY.mk (fun _ => ?_)
  refine PS.ite h (fun h11 h => ?_) (fun h11 h => ?_)
  · refine OB.grd h (fun h12 h => ?_)
    refine EX.get h (fun x13 h14 h => ?_)
    refine PS.ite h (fun h15 h => ?_) (fun h15 h => ?_)
    · refine RN.to (List.map u8 ([] : List UInt8)) rfl ?_
      exact lf1 h fun e0 => Exists.intro [.id 145] (And.intro rfl (And.intro (And.intro (mpe e0) trivial) trivial))
    refine OB.mk h12 ?_
    refine EX.pos h14 ?_
    refine CK.call false [] h (fun _ h => con_s_PutNum h) (And.intro rfl trivial) trivial rfl (fun _ => rfl) (fun _ => Or.inl rfl) (fun y16 h17 h => ?_)
    refine RN.mk ?_
    refine OB.app (enc := u8) (l := y16) rfl (fun _ => rfl) h (fun h18 h => ?_)
    refine RN.to (List.map u8 (v9 ++ y16)) List.map_append.symm ?_
    refine NX.next h ?_
    exact Exists.intro [.id 241] (And.intro rfl (And.intro (And.intro rfl trivial) (And.intro rfl (And.intro trivial (And.intro rfl trivial)))))
  exact lf1 h fun e0 => Exists.intro [.id 0] (And.intro rfl (And.intro (And.intro (mpe e0) trivial) trivial))
theorem con_s_BooksPack {a0 : MBooks} {r0 : (List UInt8)} {r1 : Bool} (h : s_BooksPack a0 = some (r0, r1)) : Con Tryz.prog 100 [.agg [.sl 2 (List.map MAccount.av a0.Accounts), .sl 2 (List.map MInstr.av a0.Instrs), .sl 3 (List.map MBal.av a0.Bals), .sl 5 (List.map MLot.av a0.Lots), .sl 8 (List.map MTrade.av a0.Trades), .i .i64 a0.Lot]] [] (.tup [.own 0, .p (r1 = true)]) [some (.arr 1 (List.map u8 r0))] := by
  refine con_of_awpF hT mixed (fn := Tryz.f100) Tryz.func100 rfl rfl ?_
  unfold s_BooksPack at h
  refine CK.call false [] h (fun _ h => con_s_BooksOk h) (And.intro (And.intro rfl (And.intro rfl (And.intro rfl (And.intro rfl (And.intro rfl (And.intro rfl trivial)))))) trivial) trivial rfl (fun _ => rfl) (fun _ => Or.inl rfl) (fun y1 h2 h => ?_)
  refine PS.ite h (fun h3 h => ?_) (fun h3 h => ?_)
  · refine RN.to (List.map u8 ([] : List UInt8)) rfl ?_
    exact lf2 h fun e0 e1 => Exists.intro [.id 96] (And.intro rfl (And.intro (And.intro (mpe e0) trivial) (And.intro trivial (And.intro (be e1) trivial))))
  refine CK.call false [] h (fun _ h => con_s_l13Nums h) (And.intro (And.intro rfl (And.intro rfl (And.intro rfl (And.intro rfl (And.intro rfl (And.intro rfl trivial)))))) trivial) trivial rfl (fun _ => rfl) (fun _ => Or.inl rfl) (fun y4 h5 h => ?_)
  refine RN.mk ?_
  refine CK.call false [] h (fun _ h => con_s_PutNums h) (And.intro rfl trivial) trivial rfl (fun _ => rfl) (fun _ => Or.inr (Flat.mk rfl (And.intro (FlatO.map fun _ => rfl) trivial))) (fun y6 h7 h => ?_)
  refine RN.mk ?_
  exact lf2 h fun e0 e1 => Exists.intro [.id 128] (And.intro rfl (And.intro (And.intro (mpe e0) trivial) (And.intro trivial (And.intro (be e1) trivial))))
theorem con_s_Seal {a0 : (List UInt8)} {r0 : (List UInt8)} {r1 : Bool} (h : s_Seal a0 = some (r0, r1)) : Con Tryz.prog 101 [.sl 1 (List.map u8 a0)] [] (.tup [.own 0, .p (r1 = true)]) [some (.arr 1 (List.map u8 r0))] := by
  refine con_of_awpF hT mixed (fn := Tryz.f101) Tryz.func101 rfl rfl ?_
  unfold s_Seal at h
  refine HY.mk (fun _ => ?_)
  refine PS.ite h (fun h1 h => ?_) (fun h1 h => ?_)
  · refine RN.to (List.map u8 ([] : List UInt8)) rfl ?_
    exact lf2 h fun e0 e1 => Exists.intro [.id 80] (And.intro rfl (And.intro (And.intro (mpe e0) trivial) (And.intro trivial (And.intro (be e1) trivial))))
  refine CK.call false [] h (fun _ h => con_s_Check h) (And.intro rfl trivial) trivial rfl (fun _ => rfl) (fun _ => Or.inl rfl) (fun y2 h3 h => ?_)
  refine HY.mk (fun _ => ?_)
  refine CK.call false [] h (fun _ h => con_s_PutNum h) (And.intro rfl trivial) trivial rfl (fun _ => rfl) (fun _ => Or.inl rfl) (fun y4 h5 h => ?_)
  refine RN.mk ?_
  refine OB.app (enc := u8) (l := a0) rfl (fun _ => rfl) h (fun h6 h => ?_)
  refine RN.to (List.map u8 (y4 ++ a0)) List.map_append.symm ?_
  refine RN.to (List.map u8 [(byteOf y2), (byteOf (Int.fdiv y2 (2 ^ (Int.toNat (8 : Int))))), (byteOf (Int.fdiv y2 (2 ^ (Int.toNat (16 : Int))))), (byteOf (Int.fdiv y2 (2 ^ (Int.toNat (24 : Int)))))]) ((consE (u8_of _) (consE (u8_of _) (consE (u8_of _) (consE (u8_of _) rfl))))) ?_
  refine OB.app (enc := u8) (l := [(byteOf y2), (byteOf (Int.fdiv y2 (2 ^ (Int.toNat (8 : Int))))), (byteOf (Int.fdiv y2 (2 ^ (Int.toNat (16 : Int))))), (byteOf (Int.fdiv y2 (2 ^ (Int.toNat (24 : Int)))))]) rfl (fun _ => rfl) h (fun h7 h => ?_)
  refine RN.to (List.map u8 ((y4 ++ a0) ++ [(byteOf y2), (byteOf (Int.fdiv y2 (2 ^ (Int.toNat (8 : Int))))), (byteOf (Int.fdiv y2 (2 ^ (Int.toNat (16 : Int))))), (byteOf (Int.fdiv y2 (2 ^ (Int.toNat (24 : Int)))))])) List.map_append.symm ?_
  exact lf2 h fun e0 e1 => Exists.intro [.id 432] (And.intro rfl (And.intro (And.intro (mpe e0) trivial) (And.intro trivial (And.intro (be e1) trivial))))
theorem con_s_SavePack {a0 : MSave} {r0 : (List UInt8)} {r1 : Bool} (h : s_SavePack a0 = some (r0, r1)) : Con Tryz.prog 41 [.agg [.i .i64 a0.From, .sl 2 (List.map MAccount.av a0.Books.Accounts), .sl 2 (List.map MInstr.av a0.Books.Instrs), .sl 3 (List.map MBal.av a0.Books.Bals), .sl 5 (List.map MLot.av a0.Books.Lots), .sl 8 (List.map MTrade.av a0.Books.Trades), .i .i64 a0.Books.Lot]] [] (.tup [.s r0, .p (r1 = true)]) [] := by
  refine con_of_awpF hT mixed (fn := Tryz.f41) Tryz.func41 rfl rfl ?_
  unfold s_SavePack at h
  refine CK.call false [] h (fun _ h => con_s_BooksPack h) (And.intro (And.intro rfl (And.intro rfl (And.intro rfl (And.intro rfl (And.intro rfl (And.intro rfl trivial)))))) trivial) trivial rfl (fun _ => rfl) (fun _ => Or.inl rfl) (fun y1 h2 h => ?_)
  refine RN.mk ?_
  refine PS.ite h (fun h3 h => ?_) (fun h3 h => ?_)
  · exact lf2 h fun e0 e1 => Exists.intro [] (And.intro rfl (And.intro trivial (And.intro e0 (And.intro (be e1) trivial))))
  refine CK.call false [] h (fun _ h => con_s_l15Seg h) (And.intro rfl trivial) trivial rfl (fun _ => rfl) (fun _ => Or.inl rfl) (fun y4 h5 h => ?_)
  refine PS.ite h (fun h6 h => ?_) (fun h6 h => ?_)
  · exact lf2 h fun e0 e1 => Exists.intro [] (And.intro rfl (And.intro trivial (And.intro e0 (And.intro (be e1) trivial))))
  refine CK.call false [] h (fun _ h => con_s_PutNum h) (And.intro rfl trivial) trivial rfl (fun _ => rfl) (fun _ => Or.inl rfl) (fun y7 h8 h => ?_)
  refine RN.mk ?_
  refine OB.app (enc := u8) (l := y1.1) rfl (fun _ => rfl) h (fun h9 h => ?_)
  refine RN.to (List.map u8 (y7 ++ y1.1)) List.map_append.symm ?_
  refine CK.call false [] h (fun _ h => con_s_Seal h) (And.intro rfl trivial) trivial rfl (fun _ => rfl) (fun _ => Or.inr (Flat.mk rfl (And.intro (FlatO.map fun _ => rfl) trivial))) (fun y10 h11 h => ?_)
  refine RN.mk ?_
  refine PS.ite h (fun h12 h => ?_) (fun h12 h => ?_)
  · exact lf2 h fun e0 e1 => Exists.intro [] (And.intro rfl (And.intro trivial (And.intro e0 (And.intro (be e1) trivial))))
  refine Exists.intro y10.1 (And.intro rfl (HY.mk fun _ => ?_))
  exact lf2 h fun e0 e1 => Exists.intro [] (And.intro rfl (And.intro trivial (And.intro e0 (And.intro (be e1) trivial))))
theorem con_s_l14Less {a0 : MDisk} {a1 : Int} {r0 : Int} {r1 : (List MFile)} (h : s_l14Less a0 a1 = some (r0, r1)) : Con Tryz.prog 45 [.agg [.i .i64 a0.Room, .sl 3 (List.map MFile.av a0.Files)], .i .i64 a1] [] (.agg [.i .i64 r0, .own 0]) [some (.arr 3 (List.map MFile.av r1))] := by
  refine con_of_awpF hT mixed (fn := Tryz.f45) Tryz.func45 rfl rfl ?_
  unfold s_l14Less at h
  refine LP.fuel (g := s_l14Less_L1 a0 a1 _) (fun (v7, v8) => ⟨[(1, .i .i64 a1), (2, .ptr 0 0), (4, .ptr 1 0), (5, .ptr 2 0), (6, .i .i64 v8)], [some (.box [.i .i64 a0.Room, .sl 3 (List.map MFile.av a0.Files)]), some (.box [.i .i64 ((0 : Int)), .nil]), some (.box [.i .i64 a0.Room, .own 3]), some (.arr 3 (List.map MFile.av v7))]⟩) h (fun _ h => by cases h) ?_ ?_
  · exact Exists.intro [.id 0, .id 16, .id 80, .nl] (And.intro rfl (And.intro (And.intro (And.intro rfl (And.intro rfl trivial)) (And.intro (And.intro rfl (And.intro trivial trivial)) (And.intro (And.intro rfl (And.intro trivial trivial)) (And.intro rfl trivial)))) (And.intro rfl (And.intro trivial (And.intro trivial (And.intro trivial (And.intro rfl trivial)))))))
  intro n v h
  obtain ⟨v7, v8⟩ := v
  rw [s_l14Less_L1.eq_2] at h
  refine HY.mk (fun _ => ?_)
  refine PS.ite h (fun h9 h => ?_) (fun h9 h => ?_)
  · refine PS.ite h (fun h10 h => ?_) (fun h10 h => ?_)
    · refine OB.grd h (fun h11 h => ?_)
      refine EX.get h (fun x12 h13 h => ?_)
      refine RN.to (List.map MFile.av [x12]) rfl ?_
      refine OB.app (enc := MFile.av) (l := [x12]) rfl (fun _ => rfl) h (fun h14 h => ?_)
      refine RN.to (List.map MFile.av (v7 ++ [x12])) List.map_append.symm ?_
      refine OB.mk (by kernel_rfl) ?_
      refine NX.next h ?_
      exact Exists.intro [.id 0, .id 1, .id 2, .id 260] (And.intro rfl (And.intro (And.intro (And.intro rfl (And.intro rfl trivial)) (And.intro (And.intro rfl (And.intro trivial trivial)) (And.intro (And.intro rfl (And.intro trivial trivial)) (And.intro rfl trivial)))) (And.intro rfl (And.intro trivial (And.intro trivial (And.intro trivial (And.intro rfl trivial)))))))
    refine NX.next h ?_
    exact Exists.intro [.id 0, .id 1, .id 2, .id 3] (And.intro rfl (And.intro (And.intro (And.intro rfl (And.intro rfl trivial)) (And.intro (And.intro rfl (And.intro trivial trivial)) (And.intro (And.intro rfl (And.intro trivial trivial)) (And.intro rfl trivial)))) (And.intro rfl (And.intro trivial (And.intro trivial (And.intro trivial (And.intro rfl trivial)))))))
  exact lf2 h fun e0 e1 => Exists.intro [.id 3] (And.intro rfl (And.intro (And.intro (mpe e1) trivial) (And.intro e0 (And.intro trivial trivial))))
theorem con_s_l14Copy {a0 : MDisk} {r0 : Int} {r1 : (List MFile)} (h : s_l14Copy a0 = some (r0, r1)) : Con Tryz.prog 47 [.agg [.i .i64 a0.Room, .sl 3 (List.map MFile.av a0.Files)]] [] (.agg [.i .i64 r0, .own 0]) [some (.arr 3 (List.map MFile.av r1))] := by
  refine con_of_awpF hT mixed (fn := Tryz.f47) Tryz.func47 rfl rfl ?_
  unfold s_l14Copy at h
  refine RN.to (List.map MFile.av ([] : List MFile)) rfl ?_
  refine OB.app (enc := MFile.av) (l := a0.Files) rfl (fun _ => rfl) h (fun h1 h => ?_)
  refine RN.to (List.map MFile.av (([] : List MFile) ++ a0.Files)) List.map_append.symm ?_
  refine OB.mk (by kernel_rfl) ?_
  exact lf2 h fun e0 e1 => Exists.intro [.id 112] (And.intro rfl (And.intro (And.intro (mpe e1) trivial) (And.intro e0 (And.intro trivial trivial))))
theorem con_s_l14Put {a0 : MDisk} {a1 : MFile} {r0 : Int} {r1 : (List MFile)} (h : s_l14Put a0 a1 = some (r0, r1)) : Con Tryz.prog 105 [.agg [.i .i64 a0.Room, .sl 3 (List.map MFile.av a0.Files)], .agg [.i .i64 a1.Name, .s a1.Safe, .s a1.Late]] [] (.agg [.i .i64 r0, .own 0]) [some (.arr 3 (List.map MFile.av r1))] := by
  refine con_of_awpF hT mixed (fn := Tryz.f105) Tryz.func105 rfl rfl ?_
  unfold s_l14Put at h
  refine LP.fuel (g := s_l14Put_L1 a0 a1 _) (fun (v11, v12, v13) => ⟨[(2, .ptr 0 0), (3, .ptr 1 0), (4, .ptr 2 0), (5, .ptr 3 0), (6, .p (v12 = true)), (7, .i .i64 v13)], [some (.box [.i .i64 a0.Room, .sl 3 (List.map MFile.av a0.Files)]), some (.box [.i .i64 a1.Name, .s a1.Safe, .s a1.Late]), some (.box [.i .i64 ((0 : Int)), .nil]), some (.box [.i .i64 a0.Room, .own 4]), some (.arr 3 (List.map MFile.av v11))]⟩) h (fun _ h => by cases h) ?_ ?_
  · exact Exists.intro [.id 0, .id 16, .id 32, .id 96, .nl] (And.intro rfl (And.intro (And.intro (And.intro rfl (And.intro rfl trivial)) (And.intro (And.intro rfl (And.intro rfl (And.intro rfl trivial))) (And.intro (And.intro rfl (And.intro trivial trivial)) (And.intro (And.intro rfl (And.intro trivial trivial)) (And.intro rfl trivial))))) (And.intro trivial (And.intro trivial (And.intro trivial (And.intro trivial (And.intro Iff.rfl (And.intro rfl trivial))))))))
  intro n v h
  obtain ⟨v11, v12, v13⟩ := v
  rw [s_l14Put_L1.eq_2] at h
  refine HY.mk (fun _ => ?_)
  refine PS.ite h (fun h14 h => ?_) (fun h14 h => ?_)
  · refine PS.ite h (fun h15 h => ?_) (fun h15 h => ?_)
    · refine PS.pos h15 ?_
      refine PS.pos h15 ?_
      refine PS.pos h15 ?_
      refine OB.grd h (fun h16 h => ?_)
      refine EX.get h (fun x17 h18 h => ?_)
      iterate 6 refine PS.pos h15 ?_
      refine OB.mk (by kernel_rfl) ?_
      refine PS.ite h (fun h19 h => ?_) (fun h19 h => ?_)
      · refine RN.to (List.map MFile.av [a1]) rfl ?_
        refine OB.app (enc := MFile.av) (l := [a1]) rfl (fun _ => rfl) h (fun h20 h => ?_)
        refine RN.to (List.map MFile.av (v11 ++ [a1])) List.map_append.symm ?_
        refine OB.mk h16 ?_
        refine EX.pos h18 ?_
        refine OB.mk (by kernel_rfl) ?_
        refine PS.ite h (fun h21 h => ?_) (fun h21 h => ?_)
        · refine OB.mk h16 ?_
          refine EX.pos h18 ?_
          refine RN.to (List.map MFile.av [x17]) rfl ?_
          refine OB.app (enc := MFile.av) (l := [x17]) rfl (fun _ => rfl) h (fun h22 h => ?_)
          refine RN.to (List.map MFile.av ((v11 ++ [a1]) ++ [x17])) List.map_append.symm ?_
          refine OB.mk (by kernel_rfl) ?_
          refine NX.next h ?_
          exact Exists.intro [.id 0, .id 1, .id 2, .id 3, .id 693] (And.intro rfl (And.intro (And.intro (And.intro rfl (And.intro rfl trivial)) (And.intro (And.intro rfl (And.intro rfl (And.intro rfl trivial))) (And.intro (And.intro rfl (And.intro trivial trivial)) (And.intro (And.intro rfl (And.intro trivial trivial)) (And.intro rfl trivial))))) (And.intro trivial (And.intro trivial (And.intro trivial (And.intro trivial (And.intro Iff.rfl (And.intro rfl trivial))))))))
        refine NX.next h ?_
        exact Exists.intro [.id 0, .id 1, .id 2, .id 3, .id 357] (And.intro rfl (And.intro (And.intro (And.intro rfl (And.intro rfl trivial)) (And.intro (And.intro rfl (And.intro rfl (And.intro rfl trivial))) (And.intro (And.intro rfl (And.intro trivial trivial)) (And.intro (And.intro rfl (And.intro trivial trivial)) (And.intro rfl trivial))))) (And.intro trivial (And.intro trivial (And.intro trivial (And.intro trivial (And.intro Iff.rfl (And.intro rfl trivial))))))))
      refine OB.mk h16 ?_
      refine EX.pos h18 ?_
      refine OB.mk (by kernel_rfl) ?_
      refine PS.ite h (fun h23 h => ?_) (fun h23 h => ?_)
      · refine OB.mk h16 ?_
        refine EX.pos h18 ?_
        refine RN.to (List.map MFile.av [x17]) rfl ?_
        refine OB.app (enc := MFile.av) (l := [x17]) rfl (fun _ => rfl) h (fun h24 h => ?_)
        refine RN.to (List.map MFile.av (v11 ++ [x17])) List.map_append.symm ?_
        refine OB.mk (by kernel_rfl) ?_
        refine NX.next h ?_
        exact Exists.intro [.id 0, .id 1, .id 2, .id 3, .id 565] (And.intro rfl (And.intro (And.intro (And.intro rfl (And.intro rfl trivial)) (And.intro (And.intro rfl (And.intro rfl (And.intro rfl trivial))) (And.intro (And.intro rfl (And.intro trivial trivial)) (And.intro (And.intro rfl (And.intro trivial trivial)) (And.intro rfl trivial))))) (And.intro trivial (And.intro trivial (And.intro trivial (And.intro trivial (And.intro Iff.rfl (And.intro rfl trivial))))))))
      refine NX.next h ?_
      exact Exists.intro [.id 0, .id 1, .id 2, .id 3, .id 4] (And.intro rfl (And.intro (And.intro (And.intro rfl (And.intro rfl trivial)) (And.intro (And.intro rfl (And.intro rfl (And.intro rfl trivial))) (And.intro (And.intro rfl (And.intro trivial trivial)) (And.intro (And.intro rfl (And.intro trivial trivial)) (And.intro rfl trivial))))) (And.intro trivial (And.intro trivial (And.intro trivial (And.intro trivial (And.intro Iff.rfl (And.intro rfl trivial))))))))
    iterate 9 refine PS.neg h15 ?_
    refine OB.mk (by kernel_rfl) ?_
    refine OB.grd h (fun h25 h => ?_)
    refine EX.get h (fun x26 h27 h => ?_)
    refine OB.mk (by kernel_rfl) ?_
    refine PS.ite h (fun h28 h => ?_) (fun h28 h => ?_)
    · refine OB.mk h25 ?_
      refine EX.pos h27 ?_
      refine RN.to (List.map MFile.av [x26]) rfl ?_
      refine OB.app (enc := MFile.av) (l := [x26]) rfl (fun _ => rfl) h (fun h29 h => ?_)
      refine RN.to (List.map MFile.av (v11 ++ [x26])) List.map_append.symm ?_
      refine OB.mk (by kernel_rfl) ?_
      refine NX.next h ?_
      exact Exists.intro [.id 0, .id 1, .id 2, .id 3, .id 565] (And.intro rfl (And.intro (And.intro (And.intro rfl (And.intro rfl trivial)) (And.intro (And.intro rfl (And.intro rfl (And.intro rfl trivial))) (And.intro (And.intro rfl (And.intro trivial trivial)) (And.intro (And.intro rfl (And.intro trivial trivial)) (And.intro rfl trivial))))) (And.intro trivial (And.intro trivial (And.intro trivial (And.intro trivial (And.intro Iff.rfl (And.intro rfl trivial))))))))
    refine NX.next h ?_
    exact Exists.intro [.id 0, .id 1, .id 2, .id 3, .id 4] (And.intro rfl (And.intro (And.intro (And.intro rfl (And.intro rfl trivial)) (And.intro (And.intro rfl (And.intro rfl (And.intro rfl trivial))) (And.intro (And.intro rfl (And.intro trivial trivial)) (And.intro (And.intro rfl (And.intro trivial trivial)) (And.intro rfl trivial))))) (And.intro trivial (And.intro trivial (And.intro trivial (And.intro trivial (And.intro Iff.rfl (And.intro rfl trivial))))))))
  refine PS.ite h (fun h32 h => ?_) (fun h32 h => ?_)
  · refine RN.to (List.map MFile.av [a1]) rfl ?_
    refine OB.app (enc := MFile.av) (l := [a1]) rfl (fun _ => rfl) h (fun h33 h => ?_)
    refine RN.to (List.map MFile.av (v11 ++ [a1])) List.map_append.symm ?_
    exact lf2 h fun e0 e1 => Exists.intro [.id 181] (And.intro rfl (And.intro (And.intro (mpe e1) trivial) (And.intro e0 (And.intro trivial trivial))))
  exact lf2 h fun e0 e1 => Exists.intro [.id 4] (And.intro rfl (And.intro (And.intro (mpe e1) trivial) (And.intro e0 (And.intro trivial trivial))))
theorem con_s_DiskAppend {a0 : MDisk} {a1 : Int} {a2 : (List UInt8)} {r0 : Int} {r1 : (List MFile)} {r2 : Int} (h : s_DiskAppend a0 a1 a2 = some (r0, r1, r2)) : Con Tryz.prog 46 [.agg [.i .i64 a0.Room, .sl 3 (List.map MFile.av a0.Files)], .i .i64 a1, .s a2] [] (.tup [.agg [.i .i64 r0, .own 0], .i .i64 r2]) [some (.arr 3 (List.map MFile.av r1))] := by
  refine con_of_awpF hT mixed (fn := Tryz.f46) Tryz.func46 rfl rfl ?_
  unfold s_DiskAppend at h
  refine CK.call false [] h (fun _ h => con_s_DiskOk h) (And.intro (And.intro rfl (And.intro rfl trivial)) trivial) trivial rfl (fun _ => rfl) (fun _ => Or.inl rfl) (fun y1 h2 h => ?_)
  refine PS.ite h (fun h3 h => ?_) (fun h3 h => ?_)
  · exact lf3 h fun e0 e1 e2 => Exists.intro [.nl] (And.intro rfl (And.intro (And.intro (mpn e1) trivial) (And.intro (And.intro e0 (And.intro trivial trivial)) (And.intro e2 trivial))))
  refine CK.call false [] h (fun _ h => con_s_l14Name h) (And.intro rfl trivial) trivial rfl (fun _ => rfl) (fun _ => Or.inl rfl) (fun y4 h5 h => ?_)
  refine PS.ite h (fun h6 h => ?_) (fun h6 h => ?_)
  · exact lf3 h fun e0 e1 e2 => Exists.intro [.nl] (And.intro rfl (And.intro (And.intro (mpn e1) trivial) (And.intro (And.intro e0 (And.intro trivial trivial)) (And.intro e2 trivial))))
  refine HY.mk (fun _ => ?_)
  refine CK.call false [] h (fun _ h => con_s_l14Size h) (And.intro (And.intro rfl (And.intro rfl trivial)) trivial) trivial rfl (fun _ => rfl) (fun _ => Or.inl rfl) (fun y7 h8 h => ?_)
  refine OB.mk (by kernel_rfl) ?_
  refine PS.ite h (fun h9 h => ?_) (fun h9 h => ?_)
  · refine CK.call false [] h (fun _ h => con_s_l14Copy h) (And.intro (And.intro rfl (And.intro rfl trivial)) trivial) trivial rfl (fun _ => rfl) (fun _ => Or.inl rfl) (fun y10 h11 h => ?_)
    refine RN.mk ?_
    exact lf3 h fun e0 e1 e2 => Exists.intro [.id 352] (And.intro rfl (And.intro (And.intro (mpe e1) trivial) (And.intro (And.intro e0 (And.intro trivial trivial)) (And.intro e2 trivial))))
  refine CK.call false [] h (fun _ h => con_s_l14Find h) (And.intro (And.intro rfl (And.intro rfl trivial)) (And.intro rfl trivial)) trivial rfl (fun _ => rfl) (fun _ => Or.inl rfl) (fun y12 h13 h => ?_)
  refine PS.ite h (fun h14 h => ?_) (fun h14 h => ?_)
  · refine OB.grd h (fun h15 h => ?_)
    refine EX.get h (fun x16 h17 h => ?_)
    refine OB.grd h (fun h18 h => ?_)
    refine CK.call false [] h (fun _ h => con_s_l14Put h) (And.intro (And.intro rfl (And.intro rfl trivial)) (And.intro (And.intro rfl (And.intro rfl (And.intro rfl trivial))) trivial)) trivial rfl (fun _ => rfl) (fun _ => Or.inl rfl) (fun y19 h20 h => ?_)
    refine RN.mk ?_
    exact lf3 h fun e0 e1 e2 => Exists.intro [.id 720] (And.intro rfl (And.intro (And.intro (mpe e1) trivial) (And.intro (And.intro e0 (And.intro trivial trivial)) (And.intro e2 trivial))))
  refine OB.grd h (fun h21 h => ?_)
  refine CK.call false [] h (fun _ h => con_s_l14Put h) (And.intro (And.intro rfl (And.intro rfl trivial)) (And.intro (And.intro rfl (And.intro rfl (And.intro rfl trivial))) trivial)) trivial rfl (fun _ => rfl) (fun _ => Or.inl rfl) (fun y22 h23 h => ?_)
  refine RN.mk ?_
  exact lf3 h fun e0 e1 e2 => Exists.intro [.id 624] (And.intro rfl (And.intro (And.intro (mpe e1) trivial) (And.intro (And.intro e0 (And.intro trivial trivial)) (And.intro e2 trivial))))
theorem con_s_l14At {a0 : MDisk} {a1 : Int} {r0 : Int} {r1 : Int} (h : s_l14At a0 a1 = some (r0, r1)) : Con Tryz.prog 106 [.agg [.i .i64 a0.Room, .sl 3 (List.map MFile.av a0.Files)], .i .i64 a1] [] (.tup [.i .i64 r0, .i .i64 r1]) [] := by
  refine con_of_awpF hT mixed (fn := Tryz.f106) Tryz.func106 rfl rfl ?_
  unfold s_l14At at h
  refine CK.call false [] h (fun _ h => con_s_DiskOk h) (And.intro (And.intro rfl (And.intro rfl trivial)) trivial) trivial rfl (fun _ => rfl) (fun _ => Or.inl rfl) (fun y1 h2 h => ?_)
  refine PS.ite h (fun h3 h => ?_) (fun h3 h => ?_)
  · exact lf2 h fun e0 e1 => Exists.intro [] (And.intro rfl (And.intro trivial (And.intro e0 (And.intro e1 trivial))))
  refine CK.call false [] h (fun _ h => con_s_l14Name h) (And.intro rfl trivial) trivial rfl (fun _ => rfl) (fun _ => Or.inl rfl) (fun y4 h5 h => ?_)
  refine PS.ite h (fun h6 h => ?_) (fun h6 h => ?_)
  · exact lf2 h fun e0 e1 => Exists.intro [] (And.intro rfl (And.intro trivial (And.intro e0 (And.intro e1 trivial))))
  refine CK.call false [] h (fun _ h => con_s_l14Find h) (And.intro (And.intro rfl (And.intro rfl trivial)) (And.intro rfl trivial)) trivial rfl (fun _ => rfl) (fun _ => Or.inl rfl) (fun y7 h8 h => ?_)
  refine PS.ite h (fun h9 h => ?_) (fun h9 h => ?_)
  · exact lf2 h fun e0 e1 => Exists.intro [] (And.intro rfl (And.intro trivial (And.intro e0 (And.intro e1 trivial))))
  exact lf2 h fun e0 e1 => Exists.intro [] (And.intro rfl (And.intro trivial (And.intro e0 (And.intro e1 trivial))))
theorem con_s_l14Refused {a0 : MDisk} {a1 : Int} {r0 : Int} {r1 : (List MFile)} (h : s_l14Refused a0 a1 = some (r0, r1)) : Con Tryz.prog 107 [.agg [.i .i64 a0.Room, .sl 3 (List.map MFile.av a0.Files)], .i .i64 a1] [] (.agg [.i .i64 r0, .own 0]) [some (.arr 3 (List.map MFile.av r1))] := by
  refine con_of_awpF hT mixed (fn := Tryz.f107) Tryz.func107 rfl rfl ?_
  unfold s_l14Refused at h
  refine PS.ite h (fun h1 h => ?_) (fun h1 h => ?_)
  · exact lf2 h fun e0 e1 => Exists.intro [.nl] (And.intro rfl (And.intro (And.intro (mpn e1) trivial) (And.intro e0 (And.intro trivial trivial))))
  refine CK.call false [] h (fun _ h => con_s_l14Copy h) (And.intro (And.intro rfl (And.intro rfl trivial)) trivial) trivial rfl (fun _ => rfl) (fun _ => Or.inl rfl) (fun y2 h3 h => ?_)
  refine RN.mk ?_
  exact lf2 h fun e0 e1 => Exists.intro [.id 80] (And.intro rfl (And.intro (And.intro (mpe e1) trivial) (And.intro e0 (And.intro trivial trivial))))
theorem con_s_DiskSync {a0 : MDisk} {a1 : Int} {r0 : Int} {r1 : (List MFile)} {r2 : Int} (h : s_DiskSync a0 a1 = some (r0, r1, r2)) : Con Tryz.prog 48 [.agg [.i .i64 a0.Room, .sl 3 (List.map MFile.av a0.Files)], .i .i64 a1] [] (.tup [.agg [.i .i64 r0, .own 0], .i .i64 r2]) [some (.arr 3 (List.map MFile.av r1))] := by
  refine con_of_awpF hT mixed (fn := Tryz.f48) Tryz.func48 rfl rfl ?_
  unfold s_DiskSync at h
  refine CK.call false [] h (fun _ h => con_s_l14At h) (And.intro (And.intro rfl (And.intro rfl trivial)) (And.intro rfl trivial)) trivial rfl (fun _ => rfl) (fun _ => Or.inl rfl) (fun y1 h2 h => ?_)
  refine PS.ite h (fun h3 h => ?_) (fun h3 h => ?_)
  · refine CK.call false [] h (fun _ h => con_s_l14Refused h) (And.intro (And.intro rfl (And.intro rfl trivial)) (And.intro rfl trivial)) trivial rfl (fun _ => rfl) (fun _ => Or.inl rfl) (fun y4 h5 h => ?_)
    refine RN.mk ?_
    exact lf3 h fun e0 e1 e2 => Exists.intro [.id 240] (And.intro rfl (And.intro (And.intro (mpe e1) trivial) (And.intro (And.intro e0 (And.intro trivial trivial)) (And.intro e2 trivial))))
  refine OB.grd h (fun h6 h => ?_)
  refine EX.get h (fun x7 h8 h => ?_)
  refine OB.grd h (fun h9 h => ?_)
  refine CK.call false [] h (fun _ h => con_s_l14Put h) (And.intro (And.intro rfl (And.intro rfl trivial)) (And.intro (And.intro rfl (And.intro rfl (And.intro rfl trivial))) trivial)) trivial rfl (fun _ => rfl) (fun _ => Or.inl rfl) (fun y10 h11 h => ?_)
  refine RN.mk ?_
  exact lf3 h fun e0 e1 e2 => Exists.intro [.id 448] (And.intro rfl (And.intro (And.intro (mpe e1) trivial) (And.intro (And.intro e0 (And.intro trivial trivial)) (And.intro e2 trivial))))
theorem con_s_DiskMove {a0 : MDisk} {a1 : Int} {a2 : Int} {r0 : Int} {r1 : (List MFile)} {r2 : Int} (h : s_DiskMove a0 a1 a2 = some (r0, r1, r2)) : Con Tryz.prog 49 [.agg [.i .i64 a0.Room, .sl 3 (List.map MFile.av a0.Files)], .i .i64 a1, .i .i64 a2] [] (.tup [.agg [.i .i64 r0, .own 0], .i .i64 r2]) [some (.arr 3 (List.map MFile.av r1))] := by
  refine con_of_awpF hT mixed (fn := Tryz.f49) Tryz.func49 rfl rfl ?_
  unfold s_DiskMove at h
  refine CK.call false [] h (fun _ h => con_s_l14At h) (And.intro (And.intro rfl (And.intro rfl trivial)) (And.intro rfl trivial)) trivial rfl (fun _ => rfl) (fun _ => Or.inl rfl) (fun y1 h2 h => ?_)
  refine CK.call false [] h (fun _ h => con_s_l14Name h) (And.intro rfl trivial) trivial rfl (fun _ => rfl) (fun _ => Or.inl rfl) (fun y3 h4 h => ?_)
  refine PS.ite h (fun h5 h => ?_) (fun h5 h => ?_)
  · refine PS.ite h (fun h6 h => ?_) (fun h6 h => ?_)
    · refine CK.call false [] h (fun _ h => con_s_l14Refused h) (And.intro (And.intro rfl (And.intro rfl trivial)) (And.intro rfl trivial)) trivial rfl (fun _ => rfl) (fun _ => Or.inl rfl) (fun y7 h8 h => ?_)
      refine RN.mk ?_
      exact lf3 h fun e0 e1 e2 => Exists.intro [.id 384] (And.intro rfl (And.intro (And.intro (mpe e1) trivial) (And.intro (And.intro e0 (And.intro trivial trivial)) (And.intro e2 trivial))))
    refine OB.grd h (fun h9 h => ?_)
    refine EX.get h (fun x10 h11 h => ?_)
    refine CK.call false [] h (fun _ h => con_s_l14Less h) (And.intro (And.intro rfl (And.intro rfl trivial)) (And.intro rfl trivial)) trivial rfl (fun _ => rfl) (fun _ => Or.inl rfl) (fun y12 h13 h => ?_)
    refine RN.mk ?_
    refine CK.call false [] h (fun _ h => con_s_l14Put h) (And.intro (And.intro rfl (And.intro rfl trivial)) (And.intro (And.intro rfl (And.intro rfl (And.intro rfl trivial))) trivial)) trivial rfl (fun _ => rfl) (fun _ => Or.inr (Flat.mk rfl (And.intro (FlatO.map fun _ => rfl) trivial))) (fun y14 h15 h => ?_)
    refine RN.mk ?_
    refine OB.mk (by kernel_rfl) ?_
    exact lf3 h fun e0 e1 e2 => Exists.intro [.id 576] (And.intro rfl (And.intro (And.intro (mpe e1) trivial) (And.intro (And.intro e0 (And.intro trivial trivial)) (And.intro e2 trivial))))
  refine PS.ite h (fun h16 h => ?_) (fun h16 h => ?_)
  · refine PS.ite h (fun h17 h => ?_) (fun h17 h => ?_)
    · refine CK.call false [] h (fun _ h => con_s_l14Refused h) (And.intro (And.intro rfl (And.intro rfl trivial)) (And.intro rfl trivial)) trivial rfl (fun _ => rfl) (fun _ => Or.inl rfl) (fun y18 h19 h => ?_)
      refine RN.mk ?_
      exact lf3 h fun e0 e1 e2 => Exists.intro [.id 384] (And.intro rfl (And.intro (And.intro (mpe e1) trivial) (And.intro (And.intro e0 (And.intro trivial trivial)) (And.intro e2 trivial))))
    refine OB.grd h (fun h20 h => ?_)
    refine EX.get h (fun x21 h22 h => ?_)
    refine CK.call false [] h (fun _ h => con_s_l14Less h) (And.intro (And.intro rfl (And.intro rfl trivial)) (And.intro rfl trivial)) trivial rfl (fun _ => rfl) (fun _ => Or.inl rfl) (fun y23 h24 h => ?_)
    refine RN.mk ?_
    refine CK.call false [] h (fun _ h => con_s_l14Put h) (And.intro (And.intro rfl (And.intro rfl trivial)) (And.intro (And.intro rfl (And.intro rfl (And.intro rfl trivial))) trivial)) trivial rfl (fun _ => rfl) (fun _ => Or.inr (Flat.mk rfl (And.intro (FlatO.map fun _ => rfl) trivial))) (fun y25 h26 h => ?_)
    refine RN.mk ?_
    refine OB.mk (by kernel_rfl) ?_
    exact lf3 h fun e0 e1 e2 => Exists.intro [.id 576] (And.intro rfl (And.intro (And.intro (mpe e1) trivial) (And.intro (And.intro e0 (And.intro trivial trivial)) (And.intro e2 trivial))))
  refine PS.ite h (fun h27 h => ?_) (fun h27 h => ?_)
  · refine CK.call false [] h (fun _ h => con_s_l14Refused h) (And.intro (And.intro rfl (And.intro rfl trivial)) (And.intro rfl trivial)) trivial rfl (fun _ => rfl) (fun _ => Or.inl rfl) (fun y28 h29 h => ?_)
    refine RN.mk ?_
    exact lf3 h fun e0 e1 e2 => Exists.intro [.id 368] (And.intro rfl (And.intro (And.intro (mpe e1) trivial) (And.intro (And.intro e0 (And.intro trivial trivial)) (And.intro e2 trivial))))
  refine OB.grd h (fun h30 h => ?_)
  refine EX.get h (fun x31 h32 h => ?_)
  refine CK.call false [] h (fun _ h => con_s_l14Less h) (And.intro (And.intro rfl (And.intro rfl trivial)) (And.intro rfl trivial)) trivial rfl (fun _ => rfl) (fun _ => Or.inl rfl) (fun y33 h34 h => ?_)
  refine RN.mk ?_
  refine CK.call false [] h (fun _ h => con_s_l14Put h) (And.intro (And.intro rfl (And.intro rfl trivial)) (And.intro (And.intro rfl (And.intro rfl (And.intro rfl trivial))) trivial)) trivial rfl (fun _ => rfl) (fun _ => Or.inr (Flat.mk rfl (And.intro (FlatO.map fun _ => rfl) trivial))) (fun y35 h36 h => ?_)
  refine RN.mk ?_
  refine OB.mk (by kernel_rfl) ?_
  exact lf3 h fun e0 e1 e2 => Exists.intro [.id 560] (And.intro rfl (And.intro (And.intro (mpe e1) trivial) (And.intro (And.intro e0 (And.intro trivial trivial)) (And.intro e2 trivial))))
theorem con_s_l4Has {a0 : (List Int)} {a1 : Int} {r0 : Bool} (h : s_l4Has a0 a1 = some r0) : Con Tryz.prog 108 [.sl 1 (List.map iv a0), .i .i64 a1] [] (.p (r0 = true)) [] := by
  refine con_of_awpF hT mixed (fn := Tryz.f108) Tryz.func108 rfl rfl ?_
  unfold s_l4Has at h
  refine LP.fuel (g := s_l4Has_L1 a0 a1 _) (fun v6 => ⟨[(0, .sl 1 (List.map iv a0)), (1, .i .i64 a1), (5, .i .i64 v6)], []⟩) h (fun _ h => by cases h) ?_ ?_
  · exact Exists.intro [] (And.intro rfl (And.intro trivial (And.intro rfl (And.intro rfl (And.intro rfl trivial)))))
  intro n v6 h
  rw [s_l4Has_L1.eq_2] at h
  refine HY.mk (fun _ => ?_)
  refine PS.ite h (fun h7 h => ?_) (fun h7 h => ?_)
  · refine OB.grd h (fun h8 h => ?_)
    refine EX.get h (fun x9 h10 h => ?_)
    refine PS.ite h (fun h11 h => ?_) (fun h11 h => ?_)
    · exact lf1 h fun e0 => Exists.intro [] (And.intro rfl (And.intro trivial (be e0)))
    refine NX.next h ?_
    exact Exists.intro [] (And.intro rfl (And.intro trivial (And.intro rfl (And.intro rfl (And.intro rfl trivial)))))
  exact lf1 h fun e0 => Exists.intro [] (And.intro rfl (And.intro trivial (be e0)))

end Go.Proofs.YtbknlijpkabcnaaGreat.K
