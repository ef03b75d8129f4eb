/- The functions of the program compute the plain functions. No condition. -/
import Derived.Test.YtbknlijpkabcnaaGreatA1W4
namespace Go.Proofs.YtbknlijpkabcnaaGreat.K
set_option linter.all false
open Go

set_option maxRecDepth 20000
set_option maxHeartbeats 4000000

theorem con_l_markTradeS {a0 : (List MTrade)} {a1 : Int} {r0 : Int} {r1 : (List MTrade)} (h : l_markTradeS a0 a1 = some (r0, r1)) : Con Tryz.prog 89 [.own 0, .i .i64 a1] [.arr 8 (List.map MTrade.av a0)] (.i .i64 r0) [some (.arr 8 (List.map MTrade.av r1))] := by
  refine con_of_awpF hT mixed (fn := Tryz.f89) Tryz.func89 rfl rfl ?_
  unfold l_markTradeS at h
  refine LP.fuel (g := l_markTradeS_L1 _) (fun (v26, v27, v28) => ⟨[(0, .own 0), (1, .i .i64 v27), (5, .i .i64 v28)], [some (.arr 8 (List.map MTrade.av v26))]⟩) h (fun _ h => by cases h) ?_ ?_
  · exact Exists.intro [.id 0] (And.intro rfl (And.intro (And.intro rfl trivial) (And.intro trivial (And.intro rfl (And.intro rfl trivial)))))
  intro n v h
  obtain ⟨v26, v27, v28⟩ := v
  rw [l_markTradeS_L1.eq_2] at h
  refine HY.mk (fun _ => ?_)
  refine PS.ite h (fun h29 h => ?_) (fun h29 h => ?_)
  · refine OB.grd h (fun h30 h => ?_)
    refine EX.get h (fun x31 h32 h => ?_)
    refine RN.to (List.map MTrade.av (List.set v26 (Int.toNat v28) (MTrade.mk v27 x31.Buyer x31.Seller x31.Paper x31.Qty x31.Cash x31.Price x31.State))) (set_map rfl) ?_
    refine OB.grd h (fun h33 h => ?_)
    refine EX.get h (fun x34 h35 h => ?_)
    refine RN.to (List.map MTrade.av (List.set (List.set v26 (Int.toNat v28) (MTrade.mk v27 x31.Buyer x31.Seller x31.Paper x31.Qty x31.Cash x31.Price x31.State)) (Int.toNat v28) (MTrade.mk x34.No (w64 (v27 + (1 : Int))) x34.Seller x34.Paper x34.Qty x34.Cash x34.Price x34.State))) (set_map rfl) ?_
    refine OB.grd h (fun h36 h => ?_)
    refine EX.get h (fun x37 h38 h => ?_)
    refine RN.to (List.map MTrade.av (List.set (List.set (List.set v26 (Int.toNat v28) (MTrade.mk v27 x31.Buyer x31.Seller x31.Paper x31.Qty x31.Cash x31.Price x31.State)) (Int.toNat v28) (MTrade.mk x34.No (w64 (v27 + (1 : Int))) x34.Seller x34.Paper x34.Qty x34.Cash x34.Price x34.State)) (Int.toNat v28) (MTrade.mk x37.No x37.Buyer (w64 ((w64 (v27 + (1 : Int))) + (1 : Int))) x37.Paper x37.Qty x37.Cash x37.Price x37.State))) (set_map rfl) ?_
    refine OB.grd h (fun h39 h => ?_)
    refine EX.get h (fun x40 h41 h => ?_)
    refine RN.to (List.map MTrade.av (List.set (List.set (List.set (List.set v26 (Int.toNat v28) (MTrade.mk v27 x31.Buyer x31.Seller x31.Paper x31.Qty x31.Cash x31.Price x31.State)) (Int.toNat v28) (MTrade.mk x34.No (w64 (v27 + (1 : Int))) x34.Seller x34.Paper x34.Qty x34.Cash x34.Price x34.State)) (Int.toNat v28) (MTrade.mk x37.No x37.Buyer (w64 ((w64 (v27 + (1 : Int))) + (1 : Int))) x37.Paper x37.Qty x37.Cash x37.Price x37.State)) (Int.toNat v28) (MTrade.mk x40.No x40.Buyer x40.Seller (w64 ((w64 ((w64 (v27 + (1 : Int))) + (1 : Int))) + (1 : Int))) x40.Qty x40.Cash x40.Price x40.State))) (set_map rfl) ?_
    refine OB.grd h (fun h42 h => ?_)
    refine EX.get h (fun x43 h44 h => ?_)
    refine RN.to (List.map MTrade.av (List.set (List.set (List.set (List.set (List.set v26 (Int.toNat v28) (MTrade.mk v27 x31.Buyer x31.Seller x31.Paper x31.Qty x31.Cash x31.Price x31.State)) (Int.toNat v28) (MTrade.mk x34.No (w64 (v27 + (1 : Int))) x34.Seller x34.Paper x34.Qty x34.Cash x34.Price x34.State)) (Int.toNat v28) (MTrade.mk x37.No x37.Buyer (w64 ((w64 (v27 + (1 : Int))) + (1 : Int))) x37.Paper x37.Qty x37.Cash x37.Price x37.State)) (Int.toNat v28) (MTrade.mk x40.No x40.Buyer x40.Seller (w64 ((w64 ((w64 (v27 + (1 : Int))) + (1 : Int))) + (1 : Int))) x40.Qty x40.Cash x40.Price x40.State)) (Int.toNat v28) (MTrade.mk x43.No x43.Buyer x43.Seller x43.Paper (w64 ((w64 ((w64 ((w64 (v27 + (1 : Int))) + (1 : Int))) + (1 : Int))) + (1 : Int))) x43.Cash x43.Price x43.State))) (set_map rfl) ?_
    refine OB.grd h (fun h45 h => ?_)
    refine EX.get h (fun x46 h47 h => ?_)
    refine RN.to (List.map MTrade.av (List.set (List.set (List.set (List.set (List.set (List.set v26 (Int.toNat v28) (MTrade.mk v27 x31.Buyer x31.Seller x31.Paper x31.Qty x31.Cash x31.Price x31.State)) (Int.toNat v28) (MTrade.mk x34.No (w64 (v27 + (1 : Int))) x34.Seller x34.Paper x34.Qty x34.Cash x34.Price x34.State)) (Int.toNat v28) (MTrade.mk x37.No x37.Buyer (w64 ((w64 (v27 + (1 : Int))) + (1 : Int))) x37.Paper x37.Qty x37.Cash x37.Price x37.State)) (Int.toNat v28) (MTrade.mk x40.No x40.Buyer x40.Seller (w64 ((w64 ((w64 (v27 + (1 : Int))) + (1 : Int))) + (1 : Int))) x40.Qty x40.Cash x40.Price x40.State)) (Int.toNat v28) (MTrade.mk x43.No x43.Buyer x43.Seller x43.Paper (w64 ((w64 ((w64 ((w64 (v27 + (1 : Int))) + (1 : Int))) + (1 : Int))) + (1 : Int))) x43.Cash x43.Price x43.State)) (Int.toNat v28) (MTrade.mk x46.No x46.Buyer x46.Seller x46.Paper x46.Qty (w64 ((w64 ((w64 ((w64 ((w64 (v27 + (1 : Int))) + (1 : Int))) + (1 : Int))) + (1 : Int))) + (1 : Int))) x46.Price x46.State))) (set_map rfl) ?_
    refine OB.grd h (fun h48 h => ?_)
    refine EX.get h (fun x49 h50 h => ?_)
    refine RN.to (List.map MTrade.av (List.set (List.set (List.set (List.set (List.set (List.set (List.set v26 (Int.toNat v28) (MTrade.mk v27 x31.Buyer x31.Seller x31.Paper x31.Qty x31.Cash x31.Price x31.State)) (Int.toNat v28) (MTrade.mk x34.No (w64 (v27 + (1 : Int))) x34.Seller x34.Paper x34.Qty x34.Cash x34.Price x34.State)) (Int.toNat v28) (MTrade.mk x37.No x37.Buyer (w64 ((w64 (v27 + (1 : Int))) + (1 : Int))) x37.Paper x37.Qty x37.Cash x37.Price x37.State)) (Int.toNat v28) (MTrade.mk x40.No x40.Buyer x40.Seller (w64 ((w64 ((w64 (v27 + (1 : Int))) + (1 : Int))) + (1 : Int))) x40.Qty x40.Cash x40.Price x40.State)) (Int.toNat v28) (MTrade.mk x43.No x43.Buyer x43.Seller x43.Paper (w64 ((w64 ((w64 ((w64 (v27 + (1 : Int))) + (1 : Int))) + (1 : Int))) + (1 : Int))) x43.Cash x43.Price x43.State)) (Int.toNat v28) (MTrade.mk x46.No x46.Buyer x46.Seller x46.Paper x46.Qty (w64 ((w64 ((w64 ((w64 ((w64 (v27 + (1 : Int))) + (1 : Int))) + (1 : Int))) + (1 : Int))) + (1 : Int))) x46.Price x46.State)) (Int.toNat v28) (MTrade.mk x49.No x49.Buyer x49.Seller x49.Paper x49.Qty x49.Cash (w64 ((w64 ((w64 ((w64 ((w64 ((w64 (v27 + (1 : Int))) + (1 : Int))) + (1 : Int))) + (1 : Int))) + (1 : Int))) + (1 : Int))) x49.State))) (set_map rfl) ?_
    refine OB.grd h (fun h51 h => ?_)
    refine EX.get h (fun x52 h53 h => ?_)
    refine RN.to (List.map MTrade.av (List.set (List.set (List.set (List.set (List.set (List.set (List.set (List.set v26 (Int.toNat v28) (MTrade.mk v27 x31.Buyer x31.Seller x31.Paper x31.Qty x31.Cash x31.Price x31.State)) (Int.toNat v28) (MTrade.mk x34.No (w64 (v27 + (1 : Int))) x34.Seller x34.Paper x34.Qty x34.Cash x34.Price x34.State)) (Int.toNat v28) (MTrade.mk x37.No x37.Buyer (w64 ((w64 (v27 + (1 : Int))) + (1 : Int))) x37.Paper x37.Qty x37.Cash x37.Price x37.State)) (Int.toNat v28) (MTrade.mk x40.No x40.Buyer x40.Seller (w64 ((w64 ((w64 (v27 + (1 : Int))) + (1 : Int))) + (1 : Int))) x40.Qty x40.Cash x40.Price x40.State)) (Int.toNat v28) (MTrade.mk x43.No x43.Buyer x43.Seller x43.Paper (w64 ((w64 ((w64 ((w64 (v27 + (1 : Int))) + (1 : Int))) + (1 : Int))) + (1 : Int))) x43.Cash x43.Price x43.State)) (Int.toNat v28) (MTrade.mk x46.No x46.Buyer x46.Seller x46.Paper x46.Qty (w64 ((w64 ((w64 ((w64 ((w64 (v27 + (1 : Int))) + (1 : Int))) + (1 : Int))) + (1 : Int))) + (1 : Int))) x46.Price x46.State)) (Int.toNat v28) (MTrade.mk x49.No x49.Buyer x49.Seller x49.Paper x49.Qty x49.Cash (w64 ((w64 ((w64 ((w64 ((w64 ((w64 (v27 + (1 : Int))) + (1 : Int))) + (1 : Int))) + (1 : Int))) + (1 : Int))) + (1 : Int))) x49.State)) (Int.toNat v28) (MTrade.mk x52.No x52.Buyer x52.Seller x52.Paper x52.Qty x52.Cash x52.Price (w64 ((w64 ((w64 ((w64 ((w64 ((w64 ((w64 (v27 + (1 : Int))) + (1 : Int))) + (1 : Int))) + (1 : Int))) + (1 : Int))) + (1 : Int))) + (1 : Int)))))) (set_map rfl) ?_
    refine NX.next h ?_
    exact Exists.intro [.id 0] (And.intro rfl (And.intro (And.intro rfl trivial) (And.intro trivial (And.intro rfl (And.intro rfl trivial)))))
  exact lf2 h fun e0 e1 => Exists.intro [.id 0] (And.intro rfl (And.intro (And.intro (mpe e1) trivial) e0))
theorem con_l_markBooks {a0_0 : (List MAccount)} {a0_1 : (List MInstr)} {a0_2 : (List MBal)} {a0_3 : (List MLot)} {a0_4 : (List MTrade)} {a0_5 : Int} {a1 : Int} {r0 : Int} {r1 : (List MAccount)} {r2 : (List MInstr)} {r3 : (List MBal)} {r4 : (List MLot)} {r5 : (List MTrade)} (h : l_markBooks a0_0 a0_1 a0_2 a0_3 a0_4 a0_5 a1 = some (r0, r1, r2, r3, r4, r5)) : Con Tryz.prog 38 [.agg [.own 0, .own 1, .own 2, .own 3, .own 4, .i .i64 a0_5], .i .i64 a1] [.arr 2 (List.map MAccount.av a0_0), .arr 2 (List.map MInstr.av a0_1), .arr 3 (List.map MBal.av a0_2), .arr 5 (List.map MLot.av a0_3), .arr 8 (List.map MTrade.av a0_4)] (.i .i64 r0) [some (.arr 2 (List.map MAccount.av r1)), some (.arr 2 (List.map MInstr.av r2)), some (.arr 3 (List.map MBal.av r3)), some (.arr 5 (List.map MLot.av r4)), some (.arr 8 (List.map MTrade.av r5))] := by
  refine con_of_awpF hT mixed (fn := Tryz.f38) Tryz.func38 rfl rfl ?_
  unfold l_markBooks at h
  refine CK.call false [0] h (fun _ h => con_l_markAccountS h) (And.intro rfl (And.intro rfl trivial)) (And.intro rfl trivial) rfl (fun _ => rfl) (fun _ => Or.inl rfl) (fun y1 h2 h => ?_)
  refine RN.mk ?_
  refine CK.call false [1] h (fun _ h => con_l_markInstrS h) (And.intro rfl (And.intro rfl trivial)) (And.intro rfl trivial) rfl (fun _ => rfl) (fun _ => Or.inl rfl) (fun y3 h4 h => ?_)
  refine RN.mk ?_
  refine CK.call false [2] h (fun _ h => con_l_markBalS h) (And.intro rfl (And.intro rfl trivial)) (And.intro rfl trivial) rfl (fun _ => rfl) (fun _ => Or.inl rfl) (fun y5 h6 h => ?_)
  refine RN.mk ?_
  refine CK.call false [3] h (fun _ h => con_l_markLotS h) (And.intro rfl (And.intro rfl trivial)) (And.intro rfl trivial) rfl (fun _ => rfl) (fun _ => Or.inl rfl) (fun y7 h8 h => ?_)
  refine RN.mk ?_
  refine CK.call false [4] h (fun _ h => con_l_markTradeS h) (And.intro rfl (And.intro rfl trivial)) (And.intro rfl trivial) rfl (fun _ => rfl) (fun _ => Or.inl rfl) (fun y9 h10 h => ?_)
  refine RN.mk ?_
  exact lf6 h fun e0 e1 e2 e3 e4 e5 => Exists.intro [.id 0, .id 1, .id 2, .id 3, .id 4] (And.intro rfl (And.intro (And.intro (mpe e1) (And.intro (mpe e2) (And.intro (mpe e3) (And.intro (mpe e4) (And.intro (mpe e5) trivial))))) e0))
theorem con_l_markSave {a0_0 : Int} {a0_1 : (List MAccount)} {a0_2 : (List MInstr)} {a0_3 : (List MBal)} {a0_4 : (List MLot)} {a0_5 : (List MTrade)} {a0_6 : Int} {a1 : Int} {r0 : Int} {r1 : (List MAccount)} {r2 : (List MInstr)} {r3 : (List MBal)} {r4 : (List MLot)} {r5 : (List MTrade)} (h : l_markSave a0_0 a0_1 a0_2 a0_3 a0_4 a0_5 a0_6 a1 = some (r0, r1, r2, r3, r4, r5)) : Con Tryz.prog 13 [.agg [.i .i64 a0_0, .own 0, .own 1, .own 2, .own 3, .own 4, .i .i64 a0_6], .i .i64 a1] [.arr 2 (List.map MAccount.av a0_1), .arr 2 (List.map MInstr.av a0_2), .arr 3 (List.map MBal.av a0_3), .arr 5 (List.map MLot.av a0_4), .arr 8 (List.map MTrade.av a0_5)] (.i .i64 r0) [some (.arr 2 (List.map MAccount.av r1)), some (.arr 2 (List.map MInstr.av r2)), some (.arr 3 (List.map MBal.av r3)), some (.arr 5 (List.map MLot.av r4)), some (.arr 8 (List.map MTrade.av r5))] := by
  refine con_of_awpF hT mixed (fn := Tryz.f13) Tryz.func13 rfl rfl ?_
  unfold l_markSave at h
  refine CK.call false [0, 1, 2, 3, 4] h (fun _ h => con_l_markBooks h) (And.intro (And.intro rfl (And.intro rfl (And.intro rfl (And.intro rfl (And.intro rfl (And.intro rfl trivial)))))) (And.intro rfl trivial)) (And.intro rfl (And.intro rfl (And.intro rfl (And.intro rfl (And.intro rfl trivial))))) rfl (fun _ => rfl) (fun _ => Or.inl rfl) (fun y1 h2 h => ?_)
  refine RN.mk ?_
  refine RN.mk ?_
  refine RN.mk ?_
  refine RN.mk ?_
  refine RN.mk ?_
  exact lf6 h fun e0 e1 e2 e3 e4 e5 => Exists.intro [.id 0, .id 1, .id 2, .id 3, .id 4] (And.intro rfl (And.intro (And.intro (mpe e1) (And.intro (mpe e2) (And.intro (mpe e3) (And.intro (mpe e4) (And.intro (mpe e5) trivial))))) e0))
theorem con_l_heldAccountS {a0 : (List MAccount)} {a1 : Int} {r0 : Int} (h : l_heldAccountS a0 a1 = some r0) : Con Tryz.prog 90 [.sl 2 (List.map MAccount.av a0), .i .i64 a1] [] (.i .i64 r0) [] := by
  refine con_of_awpF hT mixed (fn := Tryz.f90) Tryz.func90 rfl rfl ?_
  unfold l_heldAccountS at h
  refine LP.fuel (g := l_heldAccountS_L1 a0 _) (fun (v7, v8) => ⟨[(0, .sl 2 (List.map MAccount.av a0)), (1, .i .i64 v7), (5, .i .i64 v8)], []⟩) h (fun _ h => by cases h) ?_ ?_
  · exact Exists.intro [] (And.intro rfl (And.intro trivial (And.intro rfl (And.intro rfl (And.intro rfl trivial)))))
  intro n v h
  obtain ⟨v7, v8⟩ := v
  rw [l_heldAccountS_L1.eq_2] at h
  refine HY.mk (fun _ => ?_)
  refine PS.ite h (fun h9 h => ?_) (fun h9 h => ?_)
  · refine OB.grd h (fun h10 h => ?_)
    refine EX.get h (fun x11 h12 h => ?_)
    refine PS.ite h (fun h13 h => ?_) (fun h13 h => ?_)
    · exact lf1 h fun e0 => Exists.intro [] (And.intro rfl (And.intro trivial e0))
    refine OB.mk h10 ?_
    refine EX.pos h12 ?_
    refine PS.ite h (fun h14 h => ?_) (fun h14 h => ?_)
    · exact lf1 h fun e0 => Exists.intro [] (And.intro rfl (And.intro trivial e0))
    refine NX.next h ?_
    exact Exists.intro [] (And.intro rfl (And.intro trivial (And.intro rfl (And.intro rfl (And.intro rfl trivial)))))
  exact lf1 h fun e0 => Exists.intro [] (And.intro rfl (And.intro trivial e0))
theorem con_l_heldInstrS {a0 : (List MInstr)} {a1 : Int} {r0 : Int} (h : l_heldInstrS a0 a1 = some r0) : Con Tryz.prog 91 [.sl 2 (List.map MInstr.av a0), .i .i64 a1] [] (.i .i64 r0) [] := by
  refine con_of_awpF hT mixed (fn := Tryz.f91) Tryz.func91 rfl rfl ?_
  unfold l_heldInstrS at h
  refine LP.fuel (g := l_heldInstrS_L1 a0 _) (fun (v7, v8) => ⟨[(0, .sl 2 (List.map MInstr.av a0)), (1, .i .i64 v7), (5, .i .i64 v8)], []⟩) h (fun _ h => by cases h) ?_ ?_
  · exact Exists.intro [] (And.intro rfl (And.intro trivial (And.intro rfl (And.intro rfl (And.intro rfl trivial)))))
  intro n v h
  obtain ⟨v7, v8⟩ := v
  rw [l_heldInstrS_L1.eq_2] at h
  refine HY.mk (fun _ => ?_)
  refine PS.ite h (fun h9 h => ?_) (fun h9 h => ?_)
  · refine OB.grd h (fun h10 h => ?_)
    refine EX.get h (fun x11 h12 h => ?_)
    refine PS.ite h (fun h13 h => ?_) (fun h13 h => ?_)
    · exact lf1 h fun e0 => Exists.intro [] (And.intro rfl (And.intro trivial e0))
    refine OB.mk h10 ?_
    refine EX.pos h12 ?_
    refine PS.ite h (fun h14 h => ?_) (fun h14 h => ?_)
    · exact lf1 h fun e0 => Exists.intro [] (And.intro rfl (And.intro trivial e0))
    refine NX.next h ?_
    exact Exists.intro [] (And.intro rfl (And.intro trivial (And.intro rfl (And.intro rfl (And.intro rfl trivial)))))
  exact lf1 h fun e0 => Exists.intro [] (And.intro rfl (And.intro trivial e0))
theorem con_l_heldBalS {a0 : (List MBal)} {a1 : Int} {r0 : Int} (h : l_heldBalS a0 a1 = some r0) : Con Tryz.prog 92 [.sl 3 (List.map MBal.av a0), .i .i64 a1] [] (.i .i64 r0) [] := by
  refine con_of_awpF hT mixed (fn := Tryz.f92) Tryz.func92 rfl rfl ?_
  unfold l_heldBalS at h
  refine LP.fuel (g := l_heldBalS_L1 a0 _) (fun (v8, v9) => ⟨[(0, .sl 3 (List.map MBal.av a0)), (1, .i .i64 v8), (5, .i .i64 v9)], []⟩) h (fun _ h => by cases h) ?_ ?_
  · exact Exists.intro [] (And.intro rfl (And.intro trivial (And.intro rfl (And.intro rfl (And.intro rfl trivial)))))
  intro n v h
  obtain ⟨v8, v9⟩ := v
  rw [l_heldBalS_L1.eq_2] at h
  refine HY.mk (fun _ => ?_)
  refine PS.ite h (fun h10 h => ?_) (fun h10 h => ?_)
  · refine OB.grd h (fun h11 h => ?_)
    refine EX.get h (fun x12 h13 h => ?_)
    refine PS.ite h (fun h14 h => ?_) (fun h14 h => ?_)
    · exact lf1 h fun e0 => Exists.intro [] (And.intro rfl (And.intro trivial e0))
    refine OB.mk h11 ?_
    refine EX.pos h13 ?_
    refine PS.ite h (fun h15 h => ?_) (fun h15 h => ?_)
    · exact lf1 h fun e0 => Exists.intro [] (And.intro rfl (And.intro trivial e0))
    refine OB.mk h11 ?_
    refine EX.pos h13 ?_
    refine PS.ite h (fun h16 h => ?_) (fun h16 h => ?_)
    · exact lf1 h fun e0 => Exists.intro [] (And.intro rfl (And.intro trivial e0))
    refine NX.next h ?_
    exact Exists.intro [] (And.intro rfl (And.intro trivial (And.intro rfl (And.intro rfl (And.intro rfl trivial)))))
  exact lf1 h fun e0 => Exists.intro [] (And.intro rfl (And.intro trivial e0))
theorem con_l_heldLotS {a0 : (List MLot)} {a1 : Int} {r0 : Int} (h : l_heldLotS a0 a1 = some r0) : Con Tryz.prog 93 [.sl 5 (List.map MLot.av a0), .i .i64 a1] [] (.i .i64 r0) [] := by
  refine con_of_awpF hT mixed (fn := Tryz.f93) Tryz.func93 rfl rfl ?_
  unfold l_heldLotS at h
  refine LP.fuel (g := l_heldLotS_L1 a0 _) (fun (v10, v11) => ⟨[(0, .sl 5 (List.map MLot.av a0)), (1, .i .i64 v10), (5, .i .i64 v11)], []⟩) h (fun _ h => by cases h) ?_ ?_
  · exact Exists.intro [] (And.intro rfl (And.intro trivial (And.intro rfl (And.intro rfl (And.intro rfl trivial)))))
  intro n v h
  obtain ⟨v10, v11⟩ := v
  rw [l_heldLotS_L1.eq_2] at h
  refine HY.mk (fun _ => ?_)
  refine PS.ite h (fun h12 h => ?_) (fun h12 h => ?_)
  · refine OB.grd h (fun h13 h => ?_)
    refine EX.get h (fun x14 h15 h => ?_)
    refine PS.ite h (fun h16 h => ?_) (fun h16 h => ?_)
    · exact lf1 h fun e0 => Exists.intro [] (And.intro rfl (And.intro trivial e0))
    refine OB.mk h13 ?_
    refine EX.pos h15 ?_
    refine PS.ite h (fun h17 h => ?_) (fun h17 h => ?_)
    · exact lf1 h fun e0 => Exists.intro [] (And.intro rfl (And.intro trivial e0))
    refine OB.mk h13 ?_
    refine EX.pos h15 ?_
    refine PS.ite h (fun h18 h => ?_) (fun h18 h => ?_)
    · exact lf1 h fun e0 => Exists.intro [] (And.intro rfl (And.intro trivial e0))
    refine OB.mk h13 ?_
    refine EX.pos h15 ?_
    refine PS.ite h (fun h19 h => ?_) (fun h19 h => ?_)
    · exact lf1 h fun e0 => Exists.intro [] (And.intro rfl (And.intro trivial e0))
    refine OB.mk h13 ?_
    refine EX.pos h15 ?_
    refine PS.ite h (fun h20 h => ?_) (fun h20 h => ?_)
    · exact lf1 h fun e0 => Exists.intro [] (And.intro rfl (And.intro trivial e0))
    refine NX.next h ?_
    exact Exists.intro [] (And.intro rfl (And.intro trivial (And.intro rfl (And.intro rfl (And.intro rfl trivial)))))
  exact lf1 h fun e0 => Exists.intro [] (And.intro rfl (And.intro trivial e0))
theorem con_l_heldTradeS {a0 : (List MTrade)} {a1 : Int} {r0 : Int} (h : l_heldTradeS a0 a1 = some r0) : Con Tryz.prog 94 [.sl 8 (List.map MTrade.av a0), .i .i64 a1] [] (.i .i64 r0) [] := by
  refine con_of_awpF hT mixed (fn := Tryz.f94) Tryz.func94 rfl rfl ?_
  unfold l_heldTradeS at h
  refine LP.fuel (g := l_heldTradeS_L1 a0 _) (fun (v13, v14) => ⟨[(0, .sl 8 (List.map MTrade.av a0)), (1, .i .i64 v13), (5, .i .i64 v14)], []⟩) h (fun _ h => by cases h) ?_ ?_
  · exact Exists.intro [] (And.intro rfl (And.intro trivial (And.intro rfl (And.intro rfl (And.intro rfl trivial)))))
  intro n v h
  obtain ⟨v13, v14⟩ := v
  rw [l_heldTradeS_L1.eq_2] at h
  refine HY.mk (fun _ => ?_)
  refine PS.ite h (fun h15 h => ?_) (fun h15 h => ?_)
  · refine OB.grd h (fun h16 h => ?_)
    refine EX.get h (fun x17 h18 h => ?_)
    refine PS.ite h (fun h19 h => ?_) (fun h19 h => ?_)
    · exact lf1 h fun e0 => Exists.intro [] (And.intro rfl (And.intro trivial e0))
    refine OB.mk h16 ?_
    refine EX.pos h18 ?_
    refine PS.ite h (fun h20 h => ?_) (fun h20 h => ?_)
    · exact lf1 h fun e0 => Exists.intro [] (And.intro rfl (And.intro trivial e0))
    refine OB.mk h16 ?_
    refine EX.pos h18 ?_
    refine PS.ite h (fun h21 h => ?_) (fun h21 h => ?_)
    · exact lf1 h fun e0 => Exists.intro [] (And.intro rfl (And.intro trivial e0))
    refine OB.mk h16 ?_
    refine EX.pos h18 ?_
    refine PS.ite h (fun h22 h => ?_) (fun h22 h => ?_)
    · exact lf1 h fun e0 => Exists.intro [] (And.intro rfl (And.intro trivial e0))
    refine OB.mk h16 ?_
    refine EX.pos h18 ?_
    refine PS.ite h (fun h23 h => ?_) (fun h23 h => ?_)
    · exact lf1 h fun e0 => Exists.intro [] (And.intro rfl (And.intro trivial e0))
    refine OB.mk h16 ?_
    refine EX.pos h18 ?_
    refine PS.ite h (fun h24 h => ?_) (fun h24 h => ?_)
    · exact lf1 h fun e0 => Exists.intro [] (And.intro rfl (And.intro trivial e0))
    refine OB.mk h16 ?_
    refine EX.pos h18 ?_
    refine PS.ite h (fun h25 h => ?_) (fun h25 h => ?_)
    · exact lf1 h fun e0 => Exists.intro [] (And.intro rfl (And.intro trivial e0))
    refine OB.mk h16 ?_
    refine EX.pos h18 ?_
    refine PS.ite h (fun h26 h => ?_) (fun h26 h => ?_)
    · exact lf1 h fun e0 => Exists.intro [] (And.intro rfl (And.intro trivial e0))
    refine NX.next h ?_
    exact Exists.intro [] (And.intro rfl (And.intro trivial (And.intro rfl (And.intro rfl (And.intro rfl trivial)))))
  exact lf1 h fun e0 => Exists.intro [] (And.intro rfl (And.intro trivial e0))
theorem con_l_heldBooks {a0 : MBooks} {a1 : Int} {r0 : Int} (h : l_heldBooks a0 a1 = some r0) : Con Tryz.prog 39 [.agg [.sl 2 (List.map MAccount.av a0.Accounts), .sl 2 (List.map MInstr.av a0.Instrs), .sl 3 (List.map MBal.av a0.Bals), .sl 5 (List.map MLot.av a0.Lots), .sl 8 (List.map MTrade.av a0.Trades), .i .i64 a0.Lot], .i .i64 a1] [] (.i .i64 r0) [] := by
  refine con_of_awpF hT mixed (fn := Tryz.f39) Tryz.func39 rfl rfl ?_
  unfold l_heldBooks at h
  refine CK.call false [] h (fun _ h => con_l_heldAccountS h) (And.intro rfl (And.intro rfl trivial)) trivial rfl (fun _ => rfl) (fun _ => Or.inl rfl) (fun y1 h2 h => ?_)
  refine PS.ite h (fun h3 h => ?_) (fun h3 h => ?_)
  · exact lf1 h fun e0 => Exists.intro [] (And.intro rfl (And.intro trivial e0))
  refine CK.call false [] h (fun _ h => con_l_heldInstrS h) (And.intro rfl (And.intro rfl trivial)) trivial rfl (fun _ => rfl) (fun _ => Or.inl rfl) (fun y4 h5 h => ?_)
  refine PS.ite h (fun h6 h => ?_) (fun h6 h => ?_)
  · exact lf1 h fun e0 => Exists.intro [] (And.intro rfl (And.intro trivial e0))
  refine CK.call false [] h (fun _ h => con_l_heldBalS h) (And.intro rfl (And.intro rfl trivial)) trivial rfl (fun _ => rfl) (fun _ => Or.inl rfl) (fun y7 h8 h => ?_)
  refine PS.ite h (fun h9 h => ?_) (fun h9 h => ?_)
  · exact lf1 h fun e0 => Exists.intro [] (And.intro rfl (And.intro trivial e0))
  refine CK.call false [] h (fun _ h => con_l_heldLotS h) (And.intro rfl (And.intro rfl trivial)) trivial rfl (fun _ => rfl) (fun _ => Or.inl rfl) (fun y10 h11 h => ?_)
  refine PS.ite h (fun h12 h => ?_) (fun h12 h => ?_)
  · exact lf1 h fun e0 => Exists.intro [] (And.intro rfl (And.intro trivial e0))
  refine CK.call false [] h (fun _ h => con_l_heldTradeS h) (And.intro rfl (And.intro rfl trivial)) trivial rfl (fun _ => rfl) (fun _ => Or.inl rfl) (fun y13 h14 h => ?_)
  refine PS.ite h (fun h15 h => ?_) (fun h15 h => ?_)
  · exact lf1 h fun e0 => Exists.intro [] (And.intro rfl (And.intro trivial e0))
  exact lf1 h fun e0 => Exists.intro [] (And.intro rfl (And.intro trivial e0))
theorem con_l_heldSave {a0 : MSave} {a1 : Int} {r0 : Int} (h : l_heldSave a0 a1 = some r0) : Con Tryz.prog 14 [.agg [.i .i64 a0.From, .sl 2 (List.map MAccount.av a0.Books.Accounts), .sl 2 (List.map MInstr.av a0.Books.Instrs), .sl 3 (List.map MBal.av a0.Books.Bals), .sl 5 (List.map MLot.av a0.Books.Lots), .sl 8 (List.map MTrade.av a0.Books.Trades), .i .i64 a0.Books.Lot], .i .i64 a1] [] (.i .i64 r0) [] := by
  refine con_of_awpF hT mixed (fn := Tryz.f14) Tryz.func14 rfl rfl ?_
  unfold l_heldSave at h
  refine CK.call false [] h (fun _ h => con_l_heldBooks h) (And.intro (And.intro rfl (And.intro rfl (And.intro rfl (And.intro rfl (And.intro rfl (And.intro rfl trivial)))))) (And.intro rfl trivial)) trivial rfl (fun _ => rfl) (fun _ => Or.inl rfl) (fun y1 h2 h => ?_)
  refine PS.ite h (fun h3 h => ?_) (fun h3 h => ?_)
  · exact lf1 h fun e0 => Exists.intro [] (And.intro rfl (And.intro trivial e0))
  exact lf1 h fun e0 => Exists.intro [] (And.intro rfl (And.intro trivial e0))
theorem con_l_FnExactSaveLoad {a0 : MDisk} {r0 : Bool} (h : l_FnExactSaveLoad a0 = some r0) : Con Tryz.prog 3 [.agg [.i .i64 a0.Room, .sl 3 (List.map MFile.av a0.Files)]] [] (.p (r0 = true)) [] := by
  refine con_of_awpF hT mixed (fn := Tryz.f3) Tryz.func3 rfl rfl ?_
  unfold l_FnExactSaveLoad at h
  refine CK.call false [] h (fun _ h => con_l_szDisk h) (And.intro (And.intro rfl (And.intro rfl trivial)) (And.intro rfl trivial)) trivial rfl (fun _ => rfl) (fun _ => Or.inl rfl) (fun y1 h2 h => ?_)
  refine PS.ite h (fun h3 h => ?_) (fun h3 h => ?_)
  · exact lf1 h fun e0 => Exists.intro [] (And.intro rfl (And.intro trivial (be e0)))
  refine CK.call false [] h (fun _ h => con_l_toDisk h) (And.intro (And.intro rfl (And.intro rfl trivial)) trivial) trivial rfl (fun _ => rfl) (fun _ => Or.inl rfl) (fun y4 h5 h => ?_)
  refine RN.mk ?_
  refine CK.call false [] h (fun _ h => con_s_SaveLoad h) (And.intro (And.intro rfl (And.intro rfl trivial)) trivial) trivial rfl (fun _ => rfl) (fun _ => Or.inr (Flat.mk rfl (And.intro (FlatO.map fun _ => rfl) (And.intro (FlatO.map fun _ => rfl) (And.intro (FlatO.map fun _ => rfl) (And.intro (FlatO.map fun _ => rfl) (And.intro (FlatO.map fun _ => rfl) trivial))))))) (fun y6 h7 h => ?_)
  refine RN.mk ?_
  refine RN.mk ?_
  refine RN.mk ?_
  refine RN.mk ?_
  refine RN.mk ?_
  refine CK.call false [] h (fun _ h => con_l_toDisk h) (And.intro (And.intro rfl (And.intro rfl trivial)) trivial) trivial rfl (fun _ => rfl) (fun _ => Or.inl rfl) (fun y8 h9 h => ?_)
  refine RN.mk ?_
  refine CK.call false [] h (fun _ h => con_i_SaveLoad h) (And.intro (And.intro rfl (And.intro rfl trivial)) trivial) trivial rfl (fun _ => rfl) (fun _ => Or.inr (Flat.mk rfl (And.intro (FlatO.map fun _ => rfl) (And.intro (FlatO.map fun _ => rfl) (And.intro (FlatO.map fun _ => rfl) (And.intro (FlatO.map fun _ => rfl) (And.intro (FlatO.map fun _ => rfl) trivial))))))) (fun y10 h11 h => ?_)
  refine RN.mk ?_
  refine RN.mk ?_
  refine RN.mk ?_
  refine RN.mk ?_
  refine RN.mk ?_
  refine CK.call false [] h (fun _ h => con_l_eqSave h) (And.intro (And.intro rfl (And.intro rfl (And.intro rfl (And.intro rfl (And.intro rfl (And.intro rfl (And.intro rfl trivial))))))) (And.intro (And.intro rfl (And.intro rfl (And.intro rfl (And.intro rfl (And.intro rfl (And.intro rfl (And.intro rfl trivial))))))) trivial)) trivial rfl (fun _ => rfl) (fun _ => Or.inr (Flat.mk rfl trivial)) (fun y12 h13 h => ?_)
  refine PS.ite h (fun h14 h => ?_) (fun h14 h => ?_)
  · exact lf1 h fun e0 => Exists.intro [] (And.intro rfl (And.intro trivial (be e0)))
  refine PS.ite h (fun h15 h => ?_) (fun h15 h => ?_)
  · exact lf1 h fun e0 => Exists.intro [] (And.intro rfl (And.intro trivial (be e0)))
  refine CK.call false [] h (fun _ h => con_l_toDisk h) (And.intro (And.intro rfl (And.intro rfl trivial)) trivial) trivial rfl (fun _ => rfl) (fun _ => Or.inl rfl) (fun y16 h17 h => ?_)
  refine RN.mk ?_
  refine CK.call false [] h (fun _ h => con_l_eqDisk h) (And.intro (And.intro rfl (And.intro rfl trivial)) (And.intro (And.intro rfl (And.intro rfl trivial)) trivial)) trivial rfl (fun _ => rfl) (fun _ => Or.inr (Flat.mk rfl trivial)) (fun y18 h19 h => ?_)
  refine OB.mk (by kernel_rfl) ?_
  refine PS.ite h (fun h20 h => ?_) (fun h20 h => ?_)
  · exact lf1 h fun e0 => Exists.intro [] (And.intro rfl (And.intro trivial (be e0)))
  refine CK.call false [304] h (fun _ h => con_l_markDisk h) (And.intro (And.intro rfl (And.intro rfl trivial)) (And.intro rfl trivial)) (And.intro rfl trivial) rfl (fun _ => rfl) (fun _ => Or.inl rfl) (fun y21 h22 h => ?_)
  refine RN.mk ?_
  refine PS.ite h (fun h23 h => ?_) (fun h23 h => ?_)
  · exact lf1 h fun e0 => Exists.intro [] (And.intro rfl (And.intro trivial (be e0)))
  refine CK.call false [] h (fun _ h => con_l_eqSave h) (And.intro (And.intro rfl (And.intro rfl (And.intro rfl (And.intro rfl (And.intro rfl (And.intro rfl (And.intro rfl trivial))))))) (And.intro (And.intro rfl (And.intro rfl (And.intro rfl (And.intro rfl (And.intro rfl (And.intro rfl (And.intro rfl trivial))))))) trivial)) trivial rfl (fun _ => rfl) (fun _ => Or.inr (Flat.mk rfl trivial)) (fun y24 h25 h => ?_)
  refine PS.ite h (fun h26 h => ?_) (fun h26 h => ?_)
  · exact lf1 h fun e0 => Exists.intro [] (And.intro rfl (And.intro trivial (be e0)))
  refine PS.neg h15 ?_
  refine CK.call false [368, 369, 370, 371, 372] h (fun _ h => con_l_markSave h) (And.intro (And.intro rfl (And.intro rfl (And.intro rfl (And.intro rfl (And.intro rfl (And.intro rfl (And.intro rfl trivial))))))) (And.intro rfl trivial)) (And.intro rfl (And.intro rfl (And.intro rfl (And.intro rfl (And.intro rfl trivial))))) rfl (fun _ => rfl) (fun _ => Or.inl rfl) (fun y27 h28 h => ?_)
  refine RN.mk ?_
  refine RN.mk ?_
  refine RN.mk ?_
  refine RN.mk ?_
  refine RN.mk ?_
  refine CK.call false [] h (fun _ h => con_l_heldSave h) (And.intro (And.intro rfl (And.intro rfl (And.intro rfl (And.intro rfl (And.intro rfl (And.intro rfl (And.intro rfl trivial))))))) (And.intro rfl trivial)) trivial rfl (fun _ => rfl) (fun _ => Or.inr (Flat.mk rfl trivial)) (fun y29 h30 h => ?_)
  refine PS.ite h (fun h31 h => ?_) (fun h31 h => ?_)
  · exact lf1 h fun e0 => Exists.intro [] (And.intro rfl (And.intro trivial (be e0)))
  refine PS.ite h (fun h32 h => ?_) (fun h32 h => ?_)
  · exact lf1 h fun e0 => Exists.intro [] (And.intro rfl (And.intro trivial (be e0)))
  refine CK.call false [] h (fun _ h => con_l_toDisk h) (And.intro (And.intro rfl (And.intro rfl trivial)) trivial) trivial rfl (fun _ => rfl) (fun _ => Or.inl rfl) (fun y33 h34 h => ?_)
  refine RN.mk ?_
  refine CK.call false [] h (fun _ h => con_i_SaveLoad h) (And.intro (And.intro rfl (And.intro rfl trivial)) trivial) trivial rfl (fun _ => rfl) (fun _ => Or.inr (Flat.mk rfl (And.intro (FlatO.map fun _ => rfl) (And.intro (FlatO.map fun _ => rfl) (And.intro (FlatO.map fun _ => rfl) (And.intro (FlatO.map fun _ => rfl) (And.intro (FlatO.map fun _ => rfl) trivial))))))) (fun y35 h36 h => ?_)
  refine RN.mk ?_
  refine RN.mk ?_
  refine RN.mk ?_
  refine RN.mk ?_
  refine RN.mk ?_
  refine CK.call false [] h (fun _ h => con_l_eqSave h) (And.intro (And.intro rfl (And.intro rfl (And.intro rfl (And.intro rfl (And.intro rfl (And.intro rfl (And.intro rfl trivial))))))) (And.intro (And.intro rfl (And.intro rfl (And.intro rfl (And.intro rfl (And.intro rfl (And.intro rfl (And.intro rfl trivial))))))) trivial)) trivial rfl (fun _ => rfl) (fun _ => Or.inr (Flat.mk rfl trivial)) (fun y37 h38 h => ?_)
  refine PS.ite h (fun h39 h => ?_) (fun h39 h => ?_)
  · exact lf1 h fun e0 => Exists.intro [] (And.intro rfl (And.intro trivial (be e0)))
  refine PS.ite h (fun h40 h => ?_) (fun h40 h => ?_)
  · exact lf1 h fun e0 => Exists.intro [] (And.intro rfl (And.intro trivial (be e0)))
  refine CK.call false [] h (fun _ h => con_l_heldSave h) (And.intro (And.intro rfl (And.intro rfl (And.intro rfl (And.intro rfl (And.intro rfl (And.intro rfl (And.intro rfl trivial))))))) (And.intro rfl trivial)) trivial rfl (fun _ => rfl) (fun _ => Or.inr (Flat.mk rfl trivial)) (fun y41 h42 h => ?_)
  refine PS.ite h (fun h43 h => ?_) (fun h43 h => ?_)
  · exact lf1 h fun e0 => Exists.intro [] (And.intro rfl (And.intro trivial (be e0)))
  refine PS.ite h (fun h44 h => ?_) (fun h44 h => ?_)
  · exact lf1 h fun e0 => Exists.intro [] (And.intro rfl (And.intro trivial (be e0)))
  exact lf1 h fun e0 => Exists.intro [] (And.intro rfl (And.intro trivial (be e0)))

end Go.Proofs.YtbknlijpkabcnaaGreat.K
