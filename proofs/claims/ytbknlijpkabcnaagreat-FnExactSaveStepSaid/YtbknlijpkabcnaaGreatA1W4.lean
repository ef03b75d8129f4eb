/- The functions of the program compute the plain functions. No condition. -/
import Derived.Test.YtbknlijpkabcnaaGreatA1W3
namespace Go.Proofs.YtbknlijpkabcnaaGreat.K
set_option linter.all false
open Go

set_option maxRecDepth 20000
set_option maxHeartbeats 4000000

theorem con_s_SegsClear {a0 : MDisk} {a1 : (List Int)} {r0 : Int} {r1 : (List MFile)} (h : s_SegsClear a0 a1 = some (r0, r1)) : Con Tryz.prog 50 [.agg [.i .i64 a0.Room, .sl 3 (List.map MFile.av a0.Files)], .sl 1 (List.map iv a1)] [] (.agg [.i .i64 r0, .own 0]) [some (.arr 3 (List.map MFile.av r1))] := by
  refine con_of_awpF hT mixed (fn := Tryz.f50) Tryz.func50 rfl rfl ?_
  unfold s_SegsClear at h
  refine CK.call false [] h (fun _ h => con_s_DiskOk h) (And.intro (And.intro rfl (And.intro rfl trivial)) trivial) trivial rfl (fun _ => rfl) (fun _ => Or.inl rfl) (fun y1 h2 h => ?_)
  refine PS.ite h (fun h3 h => ?_) (fun h3 h => ?_)
  · exact lf2 h fun e0 e1 => Exists.intro [.nl] (And.intro rfl (And.intro (And.intro (mpn e1) trivial) (And.intro e0 (And.intro trivial trivial))))
  refine HY.mk (fun _ => ?_)
  refine PS.ite h (fun h4 h => ?_) (fun h4 h => ?_)
  · exact lf2 h fun e0 e1 => Exists.intro [.nl] (And.intro rfl (And.intro (And.intro (mpn e1) trivial) (And.intro e0 (And.intro trivial trivial))))
  refine LP.fuel (g := s_SegsClear_L1 a0 a1 _) (fun (v17, v18) => ⟨[(1, .sl 1 (List.map iv a1)), (2, .ptr 0 0), (4, .ptr 1 0), (5, .ptr 2 0), (6, .i .i64 v18)], [some (.box [.i .i64 a0.Room, .sl 3 (List.map MFile.av a0.Files)]), some (.box [.i .i64 ((0 : Int)), .nil]), some (.box [.i .i64 a0.Room, .own 3]), some (.arr 3 (List.map MFile.av v17))]⟩) h (fun _ h => by cases h) ?_ ?_
  · exact Exists.intro [.id 0, .id 16, .id 208, .nl] (And.intro rfl (And.intro (And.intro (And.intro rfl (And.intro rfl trivial)) (And.intro (And.intro rfl (And.intro trivial trivial)) (And.intro (And.intro rfl (And.intro trivial trivial)) (And.intro rfl trivial)))) (And.intro rfl (And.intro trivial (And.intro trivial (And.intro trivial (And.intro rfl trivial)))))))
  intro n v h
  obtain ⟨v17, v18⟩ := v
  rw [s_SegsClear_L1.eq_2] at h
  refine HY.mk (fun _ => ?_)
  refine PS.ite h (fun h19 h => ?_) (fun h19 h => ?_)
  · refine OB.grd h (fun h20 h => ?_)
    refine EX.get h (fun x21 h22 h => ?_)
    refine CK.call false [] h (fun _ h => con_s_l15Seg h) (And.intro rfl trivial) trivial rfl (fun _ => rfl) (fun _ => Or.inl rfl) (fun y23 h24 h => ?_)
    refine PS.ite h (fun h25 h => ?_) (fun h25 h => ?_)
    · refine OB.mk h20 ?_
      refine EX.pos h22 ?_
      refine RN.to (List.map MFile.av [x21]) rfl ?_
      refine OB.app (enc := MFile.av) (l := [x21]) rfl (fun _ => rfl) h (fun h26 h => ?_)
      refine RN.to (List.map MFile.av (v17 ++ [x21])) List.map_append.symm ?_
      refine OB.mk (by kernel_rfl) ?_
      refine NX.next h ?_
      exact Exists.intro [.id 0, .id 1, .id 2, .id 500] (And.intro rfl (And.intro (And.intro (And.intro rfl (And.intro rfl trivial)) (And.intro (And.intro rfl (And.intro trivial trivial)) (And.intro (And.intro rfl (And.intro trivial trivial)) (And.intro rfl trivial)))) (And.intro rfl (And.intro trivial (And.intro trivial (And.intro trivial (And.intro rfl trivial)))))))
    refine OB.mk h20 ?_
    refine EX.pos h22 ?_
    refine CK.call false [] h (fun _ h => con_s_l4Has h) (And.intro rfl (And.intro rfl trivial)) trivial rfl (fun _ => rfl) (fun _ => Or.inl rfl) (fun y27 h28 h => ?_)
    refine PS.ite h (fun h29 h => ?_) (fun h29 h => ?_)
    · refine OB.mk h20 ?_
      refine EX.pos h22 ?_
      refine RN.to (List.map MFile.av [x21]) rfl ?_
      refine OB.app (enc := MFile.av) (l := [x21]) rfl (fun _ => rfl) h (fun h30 h => ?_)
      refine RN.to (List.map MFile.av (v17 ++ [x21])) List.map_append.symm ?_
      refine OB.mk (by kernel_rfl) ?_
      refine NX.next h ?_
      exact Exists.intro [.id 0, .id 1, .id 2, .id 500] (And.intro rfl (And.intro (And.intro (And.intro rfl (And.intro rfl trivial)) (And.intro (And.intro rfl (And.intro trivial trivial)) (And.intro (And.intro rfl (And.intro trivial trivial)) (And.intro rfl trivial)))) (And.intro rfl (And.intro trivial (And.intro trivial (And.intro trivial (And.intro rfl trivial)))))))
    refine NX.next h ?_
    exact Exists.intro [.id 0, .id 1, .id 2, .id 3] (And.intro rfl (And.intro (And.intro (And.intro rfl (And.intro rfl trivial)) (And.intro (And.intro rfl (And.intro trivial trivial)) (And.intro (And.intro rfl (And.intro trivial trivial)) (And.intro rfl trivial)))) (And.intro rfl (And.intro trivial (And.intro trivial (And.intro trivial (And.intro rfl trivial)))))))
  exact lf2 h fun e0 e1 => Exists.intro [.id 3] (And.intro rfl (And.intro (And.intro (mpe e1) trivial) (And.intro e0 (And.intro trivial trivial))))
theorem con_s_SaveStep {a0 : MDisk} {a1 : MSave} {a2 : Int} {r0 : Int} {r1 : (List MFile)} {r2 : Int} (h : s_SaveStep a0 a1 a2 = some (r0, r1, r2)) : Con Tryz.prog 16 [.agg [.i .i64 a0.Room, .sl 3 (List.map MFile.av a0.Files)], .agg [.i .i64 a1.From, .sl 2 (List.map MAccount.av a1.Books.Accounts), .sl 2 (List.map MInstr.av a1.Books.Instrs), .sl 3 (List.map MBal.av a1.Books.Bals), .sl 5 (List.map MLot.av a1.Books.Lots), .sl 8 (List.map MTrade.av a1.Books.Trades), .i .i64 a1.Books.Lot], .i .i64 a2] [] (.tup [.agg [.i .i64 r0, .own 0], .i .i64 r2]) [some (.arr 3 (List.map MFile.av r1))] := by
  refine con_of_awpF hT mixed (fn := Tryz.f16) Tryz.func16 rfl rfl ?_
  unfold s_SaveStep at h
  refine CK.call false [] h (fun _ h => con_s_SavePack h) (And.intro (And.intro rfl (And.intro rfl (And.intro rfl (And.intro rfl (And.intro rfl (And.intro rfl (And.intro rfl trivial))))))) trivial) trivial rfl (fun _ => rfl) (fun _ => Or.inl rfl) (fun y1 h2 h => ?_)
  refine CK.call false [] h (fun _ h => con_s_DiskOk h) (And.intro (And.intro rfl (And.intro rfl trivial)) trivial) trivial rfl (fun _ => rfl) (fun _ => Or.inl rfl) (fun y3 h4 h => ?_)
  refine PS.ite h (fun h5 h => ?_) (fun h5 h => ?_)
  · exact lf3 h fun e0 e1 e2 => Exists.intro [.nl] (And.intro rfl (And.intro (And.intro (mpn e1) trivial) (And.intro (And.intro e0 (And.intro trivial trivial)) (And.intro e2 trivial))))
  refine PS.ite h (fun h6 h => ?_) (fun h6 h => ?_)
  · exact lf3 h fun e0 e1 e2 => Exists.intro [.nl] (And.intro rfl (And.intro (And.intro (mpn e1) trivial) (And.intro (And.intro e0 (And.intro trivial trivial)) (And.intro e2 trivial))))
  refine CK.call false [] h (fun _ h => con_s_l1In h) (And.intro rfl (And.intro rfl (And.intro rfl trivial))) trivial rfl (fun _ => rfl) (fun _ => Or.inl rfl) (fun y7 h8 h => ?_)
  refine PS.ite h (fun h9 h => ?_) (fun h9 h => ?_)
  · exact lf3 h fun e0 e1 e2 => Exists.intro [.nl] (And.intro rfl (And.intro (And.intro (mpn e1) trivial) (And.intro (And.intro e0 (And.intro trivial trivial)) (And.intro e2 trivial))))
  refine PS.ite h (fun h10 h => ?_) (fun h10 h => ?_)
  · refine CK.call false [] h (fun _ h => con_s_l14Find h) (And.intro (And.intro rfl (And.intro rfl trivial)) (And.intro rfl trivial)) trivial rfl (fun _ => rfl) (fun _ => Or.inl rfl) (fun y11 h12 h => ?_)
    refine PS.ite h (fun h13 h => ?_) (fun h13 h => ?_)
    · refine CK.call false [] h (fun _ h => con_s_l14Less h) (And.intro (And.intro rfl (And.intro rfl trivial)) (And.intro rfl trivial)) trivial rfl (fun _ => rfl) (fun _ => Or.inl rfl) (fun y14 h15 h => ?_)
      refine RN.mk ?_
      refine CK.call false [] h (fun _ h => con_s_DiskAppend h) (And.intro (And.intro rfl (And.intro rfl trivial)) (And.intro rfl (And.intro rfl trivial))) trivial rfl (fun _ => rfl) (fun _ => Or.inr (Flat.mk rfl (And.intro (FlatO.map fun _ => rfl) trivial))) (fun y16 h17 h => ?_)
      refine RN.mk ?_
      refine PS.ite h (fun h18 h => ?_) (fun h18 h => ?_)
      · refine CK.call false [] h (fun _ h => con_s_l14Copy h) (And.intro (And.intro rfl (And.intro rfl trivial)) trivial) trivial rfl (fun _ => rfl) (fun _ => Or.inl rfl) (fun y19 h20 h => ?_)
        refine RN.mk ?_
        exact lf3 h fun e0 e1 e2 => Exists.intro [.id 800] (And.intro rfl (And.intro (And.intro (mpe e1) trivial) (And.intro (And.intro e0 (And.intro trivial trivial)) (And.intro e2 trivial))))
      exact lf3 h fun e0 e1 e2 => Exists.intro [.id 640] (And.intro rfl (And.intro (And.intro (mpe e1) trivial) (And.intro (And.intro e0 (And.intro trivial trivial)) (And.intro e2 trivial))))
    refine CK.call false [] h (fun _ h => con_s_DiskAppend h) (And.intro (And.intro rfl (And.intro rfl trivial)) (And.intro rfl (And.intro rfl trivial))) trivial rfl (fun _ => rfl) (fun _ => Or.inl rfl) (fun y21 h22 h => ?_)
    refine RN.mk ?_
    refine PS.ite h (fun h23 h => ?_) (fun h23 h => ?_)
    · refine CK.call false [] h (fun _ h => con_s_l14Copy h) (And.intro (And.intro rfl (And.intro rfl trivial)) trivial) trivial rfl (fun _ => rfl) (fun _ => Or.inl rfl) (fun y24 h25 h => ?_)
      refine RN.mk ?_
      exact lf3 h fun e0 e1 e2 => Exists.intro [.id 736] (And.intro rfl (And.intro (And.intro (mpe e1) trivial) (And.intro (And.intro e0 (And.intro trivial trivial)) (And.intro e2 trivial))))
    exact lf3 h fun e0 e1 e2 => Exists.intro [.id 576] (And.intro rfl (And.intro (And.intro (mpe e1) trivial) (And.intro (And.intro e0 (And.intro trivial trivial)) (And.intro e2 trivial))))
  refine PS.ite h (fun h26 h => ?_) (fun h26 h => ?_)
  · refine CK.call false [] h (fun _ h => con_s_DiskSync h) (And.intro (And.intro rfl (And.intro rfl trivial)) (And.intro rfl trivial)) trivial rfl (fun _ => rfl) (fun _ => Or.inl rfl) (fun y27 h28 h => ?_)
    refine RN.mk ?_
    exact lf3 h fun e0 e1 e2 => Exists.intro [.id 464] (And.intro rfl (And.intro (And.intro (mpe e1) trivial) (And.intro (And.intro e0 (And.intro trivial trivial)) (And.intro e2 trivial))))
  refine PS.ite h (fun h29 h => ?_) (fun h29 h => ?_)
  · refine CK.call false [] h (fun _ h => con_s_DiskMove h) (And.intro (And.intro rfl (And.intro rfl trivial)) (And.intro rfl (And.intro rfl trivial))) trivial rfl (fun _ => rfl) (fun _ => Or.inl rfl) (fun y30 h31 h => ?_)
    refine RN.mk ?_
    exact lf3 h fun e0 e1 e2 => Exists.intro [.id 496] (And.intro rfl (And.intro (And.intro (mpe e1) trivial) (And.intro (And.intro e0 (And.intro trivial trivial)) (And.intro e2 trivial))))
  refine CK.call false [] h (fun _ h => con_s_SegsClear h) (And.intro (And.intro rfl (And.intro rfl trivial)) (And.intro rfl trivial)) trivial rfl (fun _ => rfl) (fun _ => Or.inl rfl) (fun y32 h33 h => ?_)
  refine RN.mk ?_
  exact lf3 h fun e0 e1 e2 => Exists.intro [.id 496] (And.intro rfl (And.intro (And.intro (mpe e1) trivial) (And.intro (And.intro e0 (And.intro trivial trivial)) (And.intro e2 trivial))))
theorem con_g_Clone_File {a0 : (List MFile)} {r : (List MFile)} (h : g_Clone_File a0 = some r) : Con Tryz.prog 116 [.sl 3 (List.map MFile.av a0)] [] (.own 0) [some (.arr 3 (List.map MFile.av r))] := by
  refine con_of_awpF hT mixed (fn := Tryz.f116) Tryz.func116 rfl rfl ?_
  unfold g_Clone_File at h
  refine AL.mk (fun q => HY.mk (fun hq => ?_))
  refine PS.mk (fun hp => ?_) (fun hp => ?_)
  · obtain rfl : a0 = [] := List.map_eq_nil_iff.1 (hq hp)
    rw [if_pos (by decide)] at h
    exact lf1 h fun e0 => Exists.intro [.nl] (And.intro rfl (And.intro (And.intro (mpn e0) trivial) trivial))
  refine RN.to (List.map MFile.av ([] : List MFile)) rfl ?_
  refine OB.app (enc := MFile.av) (l := a0) rfl (fun _ => rfl) h (fun _ h => ?_)
  refine RN.to (List.map MFile.av a0) rfl ?_
  exact lf1 h fun e0 => Exists.intro [.id 80] (And.intro rfl (And.intro (And.intro (mpe e0) trivial) trivial))
theorem con_i_cloneDisk {a0 : MDisk} {r0 : Int} {r1 : (List MFile)} (h : i_cloneDisk a0 = some (r0, r1)) : Con Tryz.prog 54 [.agg [.i .i64 a0.Room, .sl 3 (List.map MFile.av a0.Files)]] [] (.agg [.i .i64 r0, .own 0]) [some (.arr 3 (List.map MFile.av r1))] := by
  refine con_of_awpF hT mixed (fn := Tryz.f54) Tryz.func54 rfl rfl ?_
  unfold i_cloneDisk at h
  refine CK.call false [] h (fun _ h => con_g_Clone_File h) (And.intro rfl trivial) trivial rfl (fun _ => rfl) (fun _ => Or.inl rfl) (fun y1 h2 h => ?_)
  refine RN.mk ?_
  refine OB.mk (by kernel_rfl) ?_
  exact lf2 h fun e0 e1 => Exists.intro [.id 96] (And.intro rfl (And.intro (And.intro (mpe e1) trivial) (And.intro e0 (And.intro trivial trivial))))
theorem con_i_Disk_drop_c1 {a0 : MFile} {a1_0 : Int} {r0 : Bool} (h : i_Disk_drop_c1 a0 a1_0 = some r0) : Con Tryz.prog 118 [.agg [.i .i64 a0.Name, .s a0.Safe, .s a0.Late], .rp [.i .i64 a1_0]] [] (.p (r0 = true)) [] := by
  refine con_of_awpF hT mixed (fn := Tryz.f118) Tryz.func118 rfl rfl ?_
  unfold i_Disk_drop_c1 at h
  exact lf1 h fun e0 => Exists.intro [] (And.intro rfl (And.intro trivial (pqe e0)))
theorem con_g_IndexFunc_File_s1 {a0 : (List MFile)} {a1_0_0 : Int} {r0 : Int} (h : g_IndexFunc_File_s1 a0 a1_0_0 = some r0) : Con Tryz.prog 132 [.sl 3 (List.map MFile.av a0), .fn (.func 118) [] [.rp [.i .i64 a1_0_0]]] [] (.i .i64 r0) [] := by
  refine con_of_awpF hT mixed (fn := Tryz.f132) Tryz.func132 rfl rfl ?_
  unfold g_IndexFunc_File_s1 at h
  refine HY.mk (fun _ => ?_)
  refine LP.fuel (g := g_IndexFunc_File_s1_L1 a0 a1_0_0 _) (fun v8 => ⟨[(0, .sl 3 (List.map MFile.av a0)), (1, .fn (.func 118) [] [.rp [.i .i64 a1_0_0]]), (7, .i .i64 ((ln (List.map MFile.av a0)))), (8, .i .i64 v8)], []⟩) h (fun _ h => by cases h) ?_ ?_
  · exact Exists.intro [] (And.intro rfl (And.intro trivial (And.intro rfl (And.intro (And.intro rfl (And.intro rfl rfl)) (And.intro rfl (And.intro rfl trivial))))))
  intro n v8 h
  rw [g_IndexFunc_File_s1_L1.eq_2] at h
  refine PS.ite h (fun h9 h => ?_) (fun h9 h => ?_)
  · refine OB.grd h (fun h10 h => ?_)
    refine EX.get h (fun x11 h12 h => ?_)
    refine CK.call false [] h (fun _ h => con_i_Disk_drop_c1 h) (And.intro (And.intro rfl (And.intro rfl (And.intro rfl trivial))) (And.intro (And.intro rfl trivial) trivial)) trivial rfl (fun _ => rfl) (fun _ => Or.inl rfl) (fun y13 h14 h => ?_)
    refine PS.ite h (fun h15 h => ?_) (fun h15 h => ?_)
    · exact lf1 h fun e0 => Exists.intro [] (And.intro rfl (And.intro trivial e0))
    refine NX.next h ?_
    exact Exists.intro [] (And.intro rfl (And.intro trivial (And.intro rfl (And.intro (And.intro rfl (And.intro rfl rfl)) (And.intro rfl (And.intro rfl trivial))))))
  exact lf1 h fun e0 => Exists.intro [] (And.intro rfl (And.intro trivial e0))
theorem con_g_DeleteFunc_File {a0 : (List MFile)} {a1_0_0 : Int} {r0 : (List MFile)} (h : g_DeleteFunc_File a0 a1_0_0 = some r0) : Con Tryz.prog 117 [.own 0, .fn (.func 118) [] [.rp [.i .i64 a1_0_0]]] [.arr 3 (List.map MFile.av a0)] (.own 1) [none, some (.arr 3 (List.map MFile.av r0))] := by
  refine con_of_awpF hT mixed (fn := Tryz.f117) Tryz.func117 rfl rfl ?_
  unfold g_DeleteFunc_File at h
  refine CK.call false [] h (fun _ h => con_g_IndexFunc_File_s1 h) (And.intro rfl (And.intro (And.intro rfl (And.intro trivial (And.intro (And.intro rfl trivial) trivial))) trivial)) trivial rfl (fun _ => rfl) (fun _ => Or.inr (Flat.mk rfl trivial)) (fun y1 h2 h => ?_)
  refine PS.ite h (fun h3 h => ?_) (fun h3 h => ?_)
  · exact lf1 h fun e0 => Exists.intro [.id 0, .id 0] (And.intro rfl (And.intro (And.intro trivial (And.intro (mpe e0) trivial)) trivial))
  refine LP.fuel (g := g_DeleteFunc_File_L1 a1_0_0 _) (fun (v14, v15, v16) => ⟨[(0, .own 0), (1, .fn (.func 118) [] [.rp [.i .i64 a1_0_0]]), (5, .i .i64 v15), (6, .i .i64 v16)], [some (.arr 3 (List.map MFile.av v14))]⟩) h (fun _ h => by cases h) ?_ ?_
  · exact Exists.intro [.id 0] (And.intro rfl (And.intro (And.intro rfl trivial) (And.intro trivial (And.intro (And.intro rfl (And.intro rfl rfl)) (And.intro rfl (And.intro rfl trivial))))))
  intro n v h
  obtain ⟨v14, v15, v16⟩ := v
  rw [g_DeleteFunc_File_L1.eq_2] at h
  refine HY.mk (fun _ => ?_)
  refine PS.ite h (fun h17 h => ?_) (fun h17 h => ?_)
  · refine OB.grd h (fun h18 h => ?_)
    refine EX.get h (fun x19 h20 h => ?_)
    refine CK.call false [] h (fun _ h => con_i_Disk_drop_c1 h) (And.intro (And.intro rfl (And.intro rfl (And.intro rfl trivial))) (And.intro (And.intro rfl trivial) trivial)) trivial rfl (fun _ => rfl) (fun _ => Or.inl rfl) (fun y21 h22 h => ?_)
    refine PS.ite h (fun h23 h => ?_) (fun h23 h => ?_)
    · refine OB.grd h (fun h24 h => ?_)
      refine EX.get h (fun x25 h26 h => ?_)
      refine RN.to (List.map MFile.av (List.set v14 (Int.toNat v15) x19)) (set_map rfl) ?_
      refine NX.next h ?_
      exact Exists.intro [.id 0] (And.intro rfl (And.intro (And.intro rfl trivial) (And.intro trivial (And.intro (And.intro rfl (And.intro rfl rfl)) (And.intro rfl (And.intro rfl trivial))))))
    refine NX.next h ?_
    exact Exists.intro [.id 0] (And.intro rfl (And.intro (And.intro rfl trivial) (And.intro trivial (And.intro (And.intro rfl (And.intro rfl rfl)) (And.intro rfl (And.intro rfl trivial))))))
  refine OB.grd h (fun h29 h => ?_)
  refine OB.grd h (fun h30 h => ?_)
  refine RN.to (List.map MFile.av (List.take (Int.toNat v15) v14 ++ List.replicate ((List.length (List.map MFile.av v14)) - (Int.toNat v15)) (MFile.mk (0 : Int) ([] : List UInt8) ([] : List UInt8)) ++ List.drop ((Int.toNat v15) + ((List.length (List.map MFile.av v14)) - (Int.toNat v15))) v14)) (clear_map rfl) ?_
  refine OB.grd h (fun h31 h => ?_)
  exact lf1 h fun e0 => Exists.intro [.id 0, .pre 0 ((Int.toNat v15) - 0)] (And.intro rfl (And.intro (And.intro trivial (And.intro (And.intro (by simp only [List.length_map, List.length_append, List.length_take, List.length_drop, List.length_replicate, List.length_set, ln] at *; omega) (mpt e0)) trivial)) rfl))
theorem con_i_Disk_drop {a0_0 : Int} {a0_1 : (List MFile)} {a1 : Int} {r0 : (List MFile)} (h : i_Disk_drop a0_0 a0_1 a1 = some r0) : Con Tryz.prog 55 [.ptr 0 0, .i .i64 a1] [.box [.i .i64 a0_0, .own 1], .arr 3 (List.map MFile.av a0_1)] (.tup []) [some (.box [.i .i64 a0_0, .own 2]), none, some (.arr 3 (List.map MFile.av r0))] := by
  refine con_of_awpF hT mixed (fn := Tryz.f55) Tryz.func55 rfl rfl ?_
  unfold i_Disk_drop at h
  refine CK.call false [1] h (fun _ h => con_g_DeleteFunc_File h) (And.intro rfl (And.intro (And.intro rfl (And.intro trivial (And.intro (And.intro rfl trivial) trivial))) trivial)) (And.intro rfl trivial) rfl (fun _ => rfl) (fun _ => Or.inr (Flat.mk rfl (And.intro trivial (And.intro (FlatO.map fun _ => rfl) trivial)))) (fun y1 h2 h => ?_)
  refine RN.mk ?_
  exact lf1 h fun e0 => Exists.intro [.id 0, .id 1, .id 114] (And.intro rfl (And.intro (And.intro (And.intro rfl (And.intro trivial trivial)) (And.intro trivial (And.intro (mpe e0) trivial))) trivial))
theorem con_g_Insert_File {a0 : (List MFile)} {a1 : Int} {a2 : (List MFile)} {r : (List MFile)} (h : g_Insert_File a0 a1 a2 = some r) : Con Tryz.prog 157 [.own 0, .i .i64 a1, .own 1] [.arr 3 (List.map MFile.av a0), .arr 3 (List.map MFile.av a2)] (.own 2) [none, none, some (.arr 3 (List.map MFile.av r))] := by
  unfold g_Insert_File at h
  split at h
  · rename_i hc
    obtain ⟨h0, h1, h2, h3⟩ := hc
    cases h
    have := ins_con (xs := List.map MFile.av a0) (ys := List.map MFile.av a2) (i := Int.toNat a1) (by rw [List.length_map]; omega) (by rw [List.length_map]; exact h2) (by rw [List.length_map, List.length_map]; exact h3)
    rw [Int.toNat_of_nonneg h0, ← List.map_take, ← List.map_drop, ← List.map_append, ← List.map_append] at this
    exact this
  · cases h
theorem con_i_Disk_put {a0_0 : Int} {a0_1 : (List MFile)} {a1 : MFile} {r0 : (List MFile)} (h : i_Disk_put a0_0 a0_1 a1 = some r0) : Con Tryz.prog 119 [.ptr 0 0, .agg [.i .i64 a1.Name, .s a1.Safe, .s a1.Late]] [.box [.i .i64 a0_0, .own 1], .arr 3 (List.map MFile.av a0_1)] (.tup []) [some (.box [.i .i64 a0_0, .own 2]), none, some (.arr 3 (List.map MFile.av r0))] := by
  refine con_of_awpF hT mixed (fn := Tryz.f119) Tryz.func119 rfl rfl ?_
  unfold i_Disk_put at h
  refine LP.fuel (g := i_Disk_put_L1 a0_1 a1 _) (fun v6 => ⟨[(0, .ptr 0 0), (3, .ptr 2 0), (4, .i .i64 v6)], [some (.box [.i .i64 a0_0, .own 1]), some (.arr 3 (List.map MFile.av a0_1)), some (.box [.i .i64 a1.Name, .s a1.Safe, .s a1.Late])]⟩) h (fun _ h => by cases h) ?_ ?_
  · exact Exists.intro [.id 0, .id 1, .id 2] (And.intro rfl (And.intro (And.intro (And.intro rfl (And.intro trivial trivial)) (And.intro rfl (And.intro (And.intro rfl (And.intro rfl (And.intro rfl trivial))) trivial))) (And.intro trivial (And.intro trivial (And.intro rfl trivial)))))
  intro n v6 h
  rw [i_Disk_put_L1.eq_2] at h
  refine HY.mk (fun _ => ?_)
  refine PS.ite h (fun h7 h => ?_) (fun h7 h => ?_)
  · refine PS.pos h7 ?_
    iterate 4 refine PS.pos h7 ?_
    refine OB.grd h (fun h8 h => ?_)
    refine PS.pos h7 ?_
    refine PS.pos h7 ?_
    refine EX.get h (fun x9 h10 h => ?_)
    iterate 4 refine PS.pos h7 ?_
    refine OB.mk (by kernel_rfl) ?_
    refine PS.ite h (fun h11 h => ?_) (fun h11 h => ?_)
    · refine NX.next h ?_
      exact Exists.intro [.id 0, .id 1, .id 2] (And.intro rfl (And.intro (And.intro (And.intro rfl (And.intro trivial trivial)) (And.intro rfl (And.intro (And.intro rfl (And.intro rfl (And.intro rfl trivial))) trivial))) (And.intro trivial (And.intro trivial (And.intro rfl trivial)))))
    refine RN.to (List.map MFile.av [a1]) rfl ?_
    refine CK.call false [1, 435] h (fun _ h => con_g_Insert_File h) (And.intro rfl (And.intro rfl (And.intro rfl trivial))) (And.intro rfl (And.intro rfl trivial)) rfl (fun _ => rfl) (fun _ => Or.inl rfl) (fun y13 h14 h => ?_)
    refine RN.mk ?_
    refine OB.mk (by kernel_rfl) ?_
    exact lf1 h fun e0 => Exists.intro [.id 0, .id 1, .id 451] (And.intro rfl (And.intro (And.intro (And.intro rfl (And.intro trivial trivial)) (And.intro trivial (And.intro (mpe e0) trivial))) trivial))
  iterate 11 refine PS.neg h7 ?_
  refine OB.mk (by kernel_rfl) ?_
  refine RN.to (List.map MFile.av [a1]) rfl ?_
  refine CK.call false [1, 435] h (fun _ h => con_g_Insert_File h) (And.intro rfl (And.intro rfl (And.intro rfl trivial))) (And.intro rfl (And.intro rfl trivial)) rfl (fun _ => rfl) (fun _ => Or.inl rfl) (fun y13 h14 h => ?_)
  refine RN.mk ?_
  refine OB.mk (by kernel_rfl) ?_
  exact lf1 h fun e0 => Exists.intro [.id 0, .id 1, .id 451] (And.intro rfl (And.intro (And.intro (And.intro rfl (And.intro trivial trivial)) (And.intro trivial (And.intro (mpe e0) trivial))) trivial))
theorem con_i_DiskAppend {a0 : MDisk} {a1 : Int} {a2 : (List UInt8)} {r0 : Int} {r1 : (List MFile)} {r2 : Int} (h : i_DiskAppend a0 a1 a2 = some (r0, r1, r2)) : Con Tryz.prog 56 [.agg [.i .i64 a0.Room, .sl 3 (List.map MFile.av a0.Files)], .i .i64 a1, .s a2] [] (.tup [.agg [.i .i64 r0, .own 0], .i .i64 r2]) [some (.arr 3 (List.map MFile.av r1))] := by
  refine con_of_awpF hT mixed (fn := Tryz.f56) Tryz.func56 rfl rfl ?_
  unfold i_DiskAppend at h
  refine CK.call false [] h (fun _ h => con_i_DiskOk h) (And.intro (And.intro rfl (And.intro rfl trivial)) trivial) trivial rfl (fun _ => rfl) (fun _ => Or.inl rfl) (fun y1 h2 h => ?_)
  refine PS.ite h (fun h3 h => ?_) (fun h3 h => ?_)
  · exact lf3 h fun e0 e1 e2 => Exists.intro [.nl] (And.intro rfl (And.intro (And.intro (mpn e1) trivial) (And.intro (And.intro e0 (And.intro trivial trivial)) (And.intro e2 trivial))))
  refine CK.call false [] h (fun _ h => con_i_isFile h) (And.intro rfl trivial) trivial rfl (fun _ => rfl) (fun _ => Or.inl rfl) (fun y4 h5 h => ?_)
  refine PS.ite h (fun h6 h => ?_) (fun h6 h => ?_)
  · exact lf3 h fun e0 e1 e2 => Exists.intro [.nl] (And.intro rfl (And.intro (And.intro (mpn e1) trivial) (And.intro (And.intro e0 (And.intro trivial trivial)) (And.intro e2 trivial))))
  refine CK.call false [] h (fun _ h => con_i_cloneDisk h) (And.intro (And.intro rfl (And.intro rfl trivial)) trivial) trivial rfl (fun _ => rfl) (fun _ => Or.inl rfl) (fun y7 h8 h => ?_)
  refine RN.mk ?_
  refine CK.call false [] h (fun _ h => con_i_usedRoom h) (And.intro (And.intro rfl (And.intro rfl trivial)) trivial) trivial rfl (fun _ => rfl) (fun _ => Or.inl rfl) (fun y9 h10 h => ?_)
  refine HY.mk (fun _ => ?_)
  refine OB.mk (by kernel_rfl) ?_
  refine PS.ite h (fun h11 h => ?_) (fun h11 h => ?_)
  · exact lf3 h fun e0 e1 e2 => Exists.intro [.id 192] (And.intro rfl (And.intro (And.intro (mpe e1) trivial) (And.intro (And.intro e0 (And.intro trivial trivial)) (And.intro e2 trivial))))
  refine CK.call false [] h (fun _ h => con_i_fileAt h) (And.intro (And.intro rfl (And.intro rfl trivial)) (And.intro rfl trivial)) trivial rfl (fun _ => rfl) (fun _ => Or.inl rfl) (fun y12 h13 h => ?_)
  refine PS.ite h (fun h14 h => ?_) (fun h14 h => ?_)
  · refine CK.call false [208, 192] h (fun _ h => con_i_Disk_put h) (And.intro rfl (And.intro (And.intro rfl (And.intro rfl (And.intro rfl trivial))) trivial)) (And.intro (And.intro rfl (And.intro rfl trivial)) (And.intro rfl trivial)) rfl (fun _ => rfl) (fun _ => Or.inl rfl) (fun y15 h16 h => ?_)
    refine RN.mk ?_
    refine CK.call false [] h (fun _ h => con_i_fileAt h) (And.intro (And.intro rfl (And.intro rfl trivial)) (And.intro rfl trivial)) trivial rfl (fun _ => rfl) (fun _ => Or.inr (Flat.mk rfl trivial)) (fun y17 h18 h => ?_)
    refine OB.grd h (fun h19 h => ?_)
    refine EX.get h (fun x20 h21 h => ?_)
    refine OB.grd h (fun h22 h => ?_)
    refine OB.mk h19 ?_
    refine EX.pos h21 ?_
    refine RN.to (List.map MFile.av (List.set y15 (Int.toNat y17) (MFile.mk x20.Name x20.Safe (x20.Late ++ a2)))) (set_map rfl) ?_
    refine OB.mk (by kernel_rfl) ?_
    exact lf3 h fun e0 e1 e2 => Exists.intro [.id 464] (And.intro rfl (And.intro (And.intro (mpe e1) trivial) (And.intro (And.intro e0 (And.intro trivial trivial)) (And.intro e2 trivial))))
  refine CK.call false [] h (fun _ h => con_i_fileAt h) (And.intro (And.intro rfl (And.intro rfl trivial)) (And.intro rfl trivial)) trivial rfl (fun _ => rfl) (fun _ => Or.inr (Flat.mk rfl trivial)) (fun y23 h24 h => ?_)
  refine OB.grd h (fun h25 h => ?_)
  refine EX.get h (fun x26 h27 h => ?_)
  refine OB.grd h (fun h28 h => ?_)
  refine OB.mk h25 ?_
  refine EX.pos h27 ?_
  refine RN.to (List.map MFile.av (List.set y7.2 (Int.toNat y23) (MFile.mk x26.Name x26.Safe (x26.Late ++ a2)))) (set_map rfl) ?_
  refine OB.mk (by kernel_rfl) ?_
  exact lf3 h fun e0 e1 e2 => Exists.intro [.id 192] (And.intro rfl (And.intro (And.intro (mpe e1) trivial) (And.intro (And.intro e0 (And.intro trivial trivial)) (And.intro e2 trivial))))
theorem con_i_DiskSync {a0 : MDisk} {a1 : Int} {r0 : Int} {r1 : (List MFile)} {r2 : Int} (h : i_DiskSync a0 a1 = some (r0, r1, r2)) : Con Tryz.prog 57 [.agg [.i .i64 a0.Room, .sl 3 (List.map MFile.av a0.Files)], .i .i64 a1] [] (.tup [.agg [.i .i64 r0, .own 0], .i .i64 r2]) [some (.arr 3 (List.map MFile.av r1))] := by
  refine con_of_awpF hT mixed (fn := Tryz.f57) Tryz.func57 rfl rfl ?_
  unfold i_DiskSync at h
  refine CK.call false [] h (fun _ h => con_i_DiskOk h) (And.intro (And.intro rfl (And.intro rfl trivial)) trivial) trivial rfl (fun _ => rfl) (fun _ => Or.inl rfl) (fun y1 h2 h => ?_)
  refine PS.ite h (fun h3 h => ?_) (fun h3 h => ?_)
  · exact lf3 h fun e0 e1 e2 => Exists.intro [.nl] (And.intro rfl (And.intro (And.intro (mpn e1) trivial) (And.intro (And.intro e0 (And.intro trivial trivial)) (And.intro e2 trivial))))
  refine CK.call false [] h (fun _ h => con_i_isFile h) (And.intro rfl trivial) trivial rfl (fun _ => rfl) (fun _ => Or.inl rfl) (fun y4 h5 h => ?_)
  refine PS.ite h (fun h6 h => ?_) (fun h6 h => ?_)
  · exact lf3 h fun e0 e1 e2 => Exists.intro [.nl] (And.intro rfl (And.intro (And.intro (mpn e1) trivial) (And.intro (And.intro e0 (And.intro trivial trivial)) (And.intro e2 trivial))))
  refine CK.call false [] h (fun _ h => con_i_cloneDisk h) (And.intro (And.intro rfl (And.intro rfl trivial)) trivial) trivial rfl (fun _ => rfl) (fun _ => Or.inl rfl) (fun y7 h8 h => ?_)
  refine RN.mk ?_
  refine CK.call false [] h (fun _ h => con_i_fileAt h) (And.intro (And.intro rfl (And.intro rfl trivial)) (And.intro rfl trivial)) trivial rfl (fun _ => rfl) (fun _ => Or.inl rfl) (fun y9 h10 h => ?_)
  refine PS.ite h (fun h11 h => ?_) (fun h11 h => ?_)
  · exact lf3 h fun e0 e1 e2 => Exists.intro [.id 192] (And.intro rfl (And.intro (And.intro (mpe e1) trivial) (And.intro (And.intro e0 (And.intro trivial trivial)) (And.intro e2 trivial))))
  refine OB.grd h (fun h12 h => ?_)
  refine EX.get h (fun x13 h14 h => ?_)
  refine OB.grd h (fun h15 h => ?_)
  refine OB.grd h (fun h16 h => ?_)
  refine EX.get h (fun x17 h18 h => ?_)
  refine RN.to (List.map MFile.av (List.set y7.2 (Int.toNat y9) (MFile.mk a1 (x13.Safe ++ x13.Late) ([] : List UInt8)))) (set_map rfl) ?_
  exact lf3 h fun e0 e1 e2 => Exists.intro [.id 192] (And.intro rfl (And.intro (And.intro (mpe e1) trivial) (And.intro (And.intro e0 (And.intro trivial trivial)) (And.intro e2 trivial))))
theorem con_i_DiskMove {a0 : MDisk} {a1 : Int} {a2 : Int} {r0 : Int} {r1 : (List MFile)} {r2 : Int} (h : i_DiskMove a0 a1 a2 = some (r0, r1, r2)) : Con Tryz.prog 58 [.agg [.i .i64 a0.Room, .sl 3 (List.map MFile.av a0.Files)], .i .i64 a1, .i .i64 a2] [] (.tup [.agg [.i .i64 r0, .own 0], .i .i64 r2]) [some (.arr 3 (List.map MFile.av r1))] := by
  refine con_of_awpF hT mixed (fn := Tryz.f58) Tryz.func58 rfl rfl ?_
  unfold i_DiskMove at h
  refine CK.call false [] h (fun _ h => con_i_DiskOk h) (And.intro (And.intro rfl (And.intro rfl trivial)) trivial) trivial rfl (fun _ => rfl) (fun _ => Or.inl rfl) (fun y1 h2 h => ?_)
  refine PS.ite h (fun h3 h => ?_) (fun h3 h => ?_)
  · exact lf3 h fun e0 e1 e2 => Exists.intro [.nl] (And.intro rfl (And.intro (And.intro (mpn e1) trivial) (And.intro (And.intro e0 (And.intro trivial trivial)) (And.intro e2 trivial))))
  refine CK.call false [] h (fun _ h => con_i_isFile h) (And.intro rfl trivial) trivial rfl (fun _ => rfl) (fun _ => Or.inl rfl) (fun y4 h5 h => ?_)
  refine PS.ite h (fun h6 h => ?_) (fun h6 h => ?_)
  · exact lf3 h fun e0 e1 e2 => Exists.intro [.nl] (And.intro rfl (And.intro (And.intro (mpn e1) trivial) (And.intro (And.intro e0 (And.intro trivial trivial)) (And.intro e2 trivial))))
  refine CK.call false [] h (fun _ h => con_i_isFile h) (And.intro rfl trivial) trivial rfl (fun _ => rfl) (fun _ => Or.inl rfl) (fun y7 h8 h => ?_)
  refine PS.ite h (fun h9 h => ?_) (fun h9 h => ?_)
  · exact lf3 h fun e0 e1 e2 => Exists.intro [.nl] (And.intro rfl (And.intro (And.intro (mpn e1) trivial) (And.intro (And.intro e0 (And.intro trivial trivial)) (And.intro e2 trivial))))
  refine PS.ite h (fun h10 h => ?_) (fun h10 h => ?_)
  · exact lf3 h fun e0 e1 e2 => Exists.intro [.nl] (And.intro rfl (And.intro (And.intro (mpn e1) trivial) (And.intro (And.intro e0 (And.intro trivial trivial)) (And.intro e2 trivial))))
  refine CK.call false [] h (fun _ h => con_i_cloneDisk h) (And.intro (And.intro rfl (And.intro rfl trivial)) trivial) trivial rfl (fun _ => rfl) (fun _ => Or.inl rfl) (fun y11 h12 h => ?_)
  refine RN.mk ?_
  refine CK.call false [] h (fun _ h => con_i_fileAt h) (And.intro (And.intro rfl (And.intro rfl trivial)) (And.intro rfl trivial)) trivial rfl (fun _ => rfl) (fun _ => Or.inl rfl) (fun y13 h14 h => ?_)
  refine PS.ite h (fun h15 h => ?_) (fun h15 h => ?_)
  · exact lf3 h fun e0 e1 e2 => Exists.intro [.id 352] (And.intro rfl (And.intro (And.intro (mpe e1) trivial) (And.intro (And.intro e0 (And.intro trivial trivial)) (And.intro e2 trivial))))
  refine OB.grd h (fun h16 h => ?_)
  refine EX.get h (fun x17 h18 h => ?_)
  refine CK.call false [368, 352] h (fun _ h => con_i_Disk_drop h) (And.intro rfl (And.intro rfl trivial)) (And.intro (And.intro rfl (And.intro rfl trivial)) (And.intro rfl trivial)) rfl (fun _ => rfl) (fun _ => Or.inl rfl) (fun y19 h20 h => ?_)
  refine RN.mk ?_
  refine CK.call false [368, 672] h (fun _ h => con_i_Disk_drop h) (And.intro rfl (And.intro rfl trivial)) (And.intro (And.intro rfl (And.intro rfl trivial)) (And.intro rfl trivial)) rfl (fun _ => rfl) (fun _ => Or.inl rfl) (fun y21 h22 h => ?_)
  refine RN.mk ?_
  refine CK.call false [368, 704] h (fun _ h => con_i_Disk_put h) (And.intro rfl (And.intro (And.intro rfl (And.intro rfl (And.intro rfl trivial))) trivial)) (And.intro (And.intro rfl (And.intro rfl trivial)) (And.intro rfl trivial)) rfl (fun _ => rfl) (fun _ => Or.inl rfl) (fun y23 h24 h => ?_)
  refine RN.mk ?_
  exact lf3 h fun e0 e1 e2 => Exists.intro [.id 736] (And.intro rfl (And.intro (And.intro (mpe e1) trivial) (And.intro (And.intro e0 (And.intro trivial trivial)) (And.intro e2 trivial))))
theorem con_g_Index_int {a0 : (List Int)} {a1 : Int} {r0 : Int} (h : g_Index_int a0 a1 = some r0) : Con Tryz.prog 158 [.sl 1 (List.map iv a0), .i .i64 a1] [] (.i .i64 r0) [] := by
  refine con_of_awpF hT mixed (fn := Tryz.f158) Tryz.func158 rfl rfl ?_
  unfold g_Index_int at h
  refine HY.mk (fun _ => ?_)
  refine LP.fuel (g := g_Index_int_L1 a0 a1 _) (fun v6 => ⟨[(0, .sl 1 (List.map iv a0)), (1, .i .i64 a1), (7, .i .i64 ((ln (List.map iv a0)))), (8, .i .i64 v6)], []⟩) h (fun _ h => by cases h) ?_ ?_
  · exact Exists.intro [] (And.intro rfl (And.intro trivial (And.intro rfl (And.intro rfl (And.intro rfl (And.intro rfl trivial))))))
  intro n v6 h
  rw [g_Index_int_L1.eq_2] at h
  refine PS.ite h (fun h7 h => ?_) (fun h7 h => ?_)
  · refine OB.grd h (fun h8 h => ?_)
    refine EX.get h (fun x9 h10 h => ?_)
    refine PS.ite h (fun h11 h => ?_) (fun h11 h => ?_)
    · exact lf1 h fun e0 => Exists.intro [] (And.intro rfl (And.intro trivial e0))
    refine NX.next h ?_
    exact Exists.intro [] (And.intro rfl (And.intro trivial (And.intro rfl (And.intro rfl (And.intro rfl (And.intro rfl trivial))))))
  exact lf1 h fun e0 => Exists.intro [] (And.intro rfl (And.intro trivial e0))
theorem con_g_Contains_int {a0 : (List Int)} {a1 : Int} {r0 : Bool} (h : g_Contains_int a0 a1 = some r0) : Con Tryz.prog 121 [.sl 1 (List.map iv a0), .i .i64 a1] [] (.p (r0 = true)) [] := by
  refine con_of_awpF hT mixed (fn := Tryz.f121) Tryz.func121 rfl rfl ?_
  unfold g_Contains_int at h
  refine CK.call false [] h (fun _ h => con_g_Index_int h) (And.intro rfl (And.intro rfl trivial)) trivial rfl (fun _ => rfl) (fun _ => Or.inl rfl) (fun y1 h2 h => ?_)
  exact lf1 h fun e0 => Exists.intro [] (And.intro rfl (And.intro trivial (pqe e0)))
theorem con_i_SegsClear_c1 {a0 : MFile} {a1_0 : (List Int)} {r0 : Bool} (h : i_SegsClear_c1 a0 a1_0 = some r0) : Con Tryz.prog 120 [.agg [.i .i64 a0.Name, .s a0.Safe, .s a0.Late], .rp [.sl 1 (List.map iv a1_0)]] [] (.p (r0 = true)) [] := by
  refine con_of_awpF hT mixed (fn := Tryz.f120) Tryz.func120 rfl rfl ?_
  unfold i_SegsClear_c1 at h
  refine CK.call false [] h (fun _ h => con_i_isSeg h) (And.intro rfl trivial) trivial rfl (fun _ => rfl) (fun _ => Or.inl rfl) (fun y1 h2 h => ?_)
  refine PS.ite h (fun h3 h => ?_) (fun h3 h => ?_)
  · refine CK.call false [] h (fun _ h => con_g_Contains_int h) (And.intro rfl (And.intro rfl trivial)) trivial rfl (fun _ => rfl) (fun _ => Or.inl rfl) (fun y4 h5 h => ?_)
    exact lf1 h fun e0 => Exists.intro [] (And.intro rfl (And.intro trivial (pqe e0)))
  exact lf1 h fun e0 => Exists.intro [] (And.intro rfl (And.intro trivial (be e0)))
theorem con_g_IndexFunc_File_s2 {a0 : (List MFile)} {a1_0_0 : (List Int)} {r0 : Int} (h : g_IndexFunc_File_s2 a0 a1_0_0 = some r0) : Con Tryz.prog 132 [.sl 3 (List.map MFile.av a0), .fn (.func 120) [] [.rp [.sl 1 (List.map iv a1_0_0)]]] [] (.i .i64 r0) [] := by
  refine con_of_awpF hT mixed (fn := Tryz.f132) Tryz.func132 rfl rfl ?_
  unfold g_IndexFunc_File_s2 at h
  refine HY.mk (fun _ => ?_)
  refine LP.fuel (g := g_IndexFunc_File_s2_L1 a0 a1_0_0 _) (fun v8 => ⟨[(0, .sl 3 (List.map MFile.av a0)), (1, .fn (.func 120) [] [.rp [.sl 1 (List.map iv a1_0_0)]]), (7, .i .i64 ((ln (List.map MFile.av a0)))), (8, .i .i64 v8)], []⟩) h (fun _ h => by cases h) ?_ ?_
  · exact Exists.intro [] (And.intro rfl (And.intro trivial (And.intro rfl (And.intro (And.intro rfl (And.intro rfl rfl)) (And.intro rfl (And.intro rfl trivial))))))
  intro n v8 h
  rw [g_IndexFunc_File_s2_L1.eq_2] at h
  refine PS.ite h (fun h9 h => ?_) (fun h9 h => ?_)
  · refine OB.grd h (fun h10 h => ?_)
    refine EX.get h (fun x11 h12 h => ?_)
    refine CK.call false [] h (fun _ h => con_i_SegsClear_c1 h) (And.intro (And.intro rfl (And.intro rfl (And.intro rfl trivial))) (And.intro (And.intro rfl trivial) trivial)) trivial rfl (fun _ => rfl) (fun _ => Or.inl rfl) (fun y13 h14 h => ?_)
    refine PS.ite h (fun h15 h => ?_) (fun h15 h => ?_)
    · exact lf1 h fun e0 => Exists.intro [] (And.intro rfl (And.intro trivial e0))
    refine NX.next h ?_
    exact Exists.intro [] (And.intro rfl (And.intro trivial (And.intro rfl (And.intro (And.intro rfl (And.intro rfl rfl)) (And.intro rfl (And.intro rfl trivial))))))
  exact lf1 h fun e0 => Exists.intro [] (And.intro rfl (And.intro trivial e0))
theorem con_g_DeleteFunc_File_s1 {a0 : (List MFile)} {a1_0_0 : (List Int)} {r0 : (List MFile)} (h : g_DeleteFunc_File_s1 a0 a1_0_0 = some r0) : Con Tryz.prog 117 [.own 0, .fn (.func 120) [] [.rp [.sl 1 (List.map iv a1_0_0)]]] [.arr 3 (List.map MFile.av a0)] (.own 1) [none, some (.arr 3 (List.map MFile.av r0))] := by
  refine con_of_awpF hT mixed (fn := Tryz.f117) Tryz.func117 rfl rfl ?_
  unfold g_DeleteFunc_File_s1 at h
  refine CK.call false [] h (fun _ h => con_g_IndexFunc_File_s2 h) (And.intro rfl (And.intro (And.intro rfl (And.intro trivial (And.intro (And.intro rfl trivial) trivial))) trivial)) trivial rfl (fun _ => rfl) (fun _ => Or.inr (Flat.mk rfl trivial)) (fun y1 h2 h => ?_)
  refine PS.ite h (fun h3 h => ?_) (fun h3 h => ?_)
  · exact lf1 h fun e0 => Exists.intro [.id 0, .id 0] (And.intro rfl (And.intro (And.intro trivial (And.intro (mpe e0) trivial)) trivial))
  refine LP.fuel (g := g_DeleteFunc_File_s1_L1 a1_0_0 _) (fun (v14, v15, v16) => ⟨[(0, .own 0), (1, .fn (.func 120) [] [.rp [.sl 1 (List.map iv a1_0_0)]]), (5, .i .i64 v15), (6, .i .i64 v16)], [some (.arr 3 (List.map MFile.av v14))]⟩) h (fun _ h => by cases h) ?_ ?_
  · exact Exists.intro [.id 0] (And.intro rfl (And.intro (And.intro rfl trivial) (And.intro trivial (And.intro (And.intro rfl (And.intro rfl rfl)) (And.intro rfl (And.intro rfl trivial))))))
  intro n v h
  obtain ⟨v14, v15, v16⟩ := v
  rw [g_DeleteFunc_File_s1_L1.eq_2] at h
  refine HY.mk (fun _ => ?_)
  refine PS.ite h (fun h17 h => ?_) (fun h17 h => ?_)
  · refine OB.grd h (fun h18 h => ?_)
    refine EX.get h (fun x19 h20 h => ?_)
    refine CK.call false [] h (fun _ h => con_i_SegsClear_c1 h) (And.intro (And.intro rfl (And.intro rfl (And.intro rfl trivial))) (And.intro (And.intro rfl trivial) trivial)) trivial rfl (fun _ => rfl) (fun _ => Or.inl rfl) (fun y21 h22 h => ?_)
    refine PS.ite h (fun h23 h => ?_) (fun h23 h => ?_)
    · refine OB.grd h (fun h24 h => ?_)
      refine EX.get h (fun x25 h26 h => ?_)
      refine RN.to (List.map MFile.av (List.set v14 (Int.toNat v15) x19)) (set_map rfl) ?_
      refine NX.next h ?_
      exact Exists.intro [.id 0] (And.intro rfl (And.intro (And.intro rfl trivial) (And.intro trivial (And.intro (And.intro rfl (And.intro rfl rfl)) (And.intro rfl (And.intro rfl trivial))))))
    refine NX.next h ?_
    exact Exists.intro [.id 0] (And.intro rfl (And.intro (And.intro rfl trivial) (And.intro trivial (And.intro (And.intro rfl (And.intro rfl rfl)) (And.intro rfl (And.intro rfl trivial))))))
  refine OB.grd h (fun h29 h => ?_)
  refine OB.grd h (fun h30 h => ?_)
  refine RN.to (List.map MFile.av (List.take (Int.toNat v15) v14 ++ List.replicate ((List.length (List.map MFile.av v14)) - (Int.toNat v15)) (MFile.mk (0 : Int) ([] : List UInt8) ([] : List UInt8)) ++ List.drop ((Int.toNat v15) + ((List.length (List.map MFile.av v14)) - (Int.toNat v15))) v14)) (clear_map rfl) ?_
  refine OB.grd h (fun h31 h => ?_)
  exact lf1 h fun e0 => Exists.intro [.id 0, .pre 0 ((Int.toNat v15) - 0)] (And.intro rfl (And.intro (And.intro trivial (And.intro (And.intro (by simp only [List.length_map, List.length_append, List.length_take, List.length_drop, List.length_replicate, List.length_set, ln] at *; omega) (mpt e0)) trivial)) rfl))
theorem con_i_SegsClear {a0 : MDisk} {a1 : (List Int)} {r0 : Int} {r1 : (List MFile)} (h : i_SegsClear a0 a1 = some (r0, r1)) : Con Tryz.prog 59 [.agg [.i .i64 a0.Room, .sl 3 (List.map MFile.av a0.Files)], .sl 1 (List.map iv a1)] [] (.agg [.i .i64 r0, .own 0]) [some (.arr 3 (List.map MFile.av r1))] := by
  refine con_of_awpF hT mixed (fn := Tryz.f59) Tryz.func59 rfl rfl ?_
  unfold i_SegsClear at h
  refine CK.call false [] h (fun _ h => con_i_DiskOk h) (And.intro (And.intro rfl (And.intro rfl trivial)) trivial) trivial rfl (fun _ => rfl) (fun _ => Or.inl rfl) (fun y1 h2 h => ?_)
  refine PS.ite h (fun h3 h => ?_) (fun h3 h => ?_)
  · exact lf2 h fun e0 e1 => Exists.intro [.nl] (And.intro rfl (And.intro (And.intro (mpn e1) trivial) (And.intro e0 (And.intro trivial trivial))))
  refine HY.mk (fun _ => ?_)
  refine PS.ite h (fun h4 h => ?_) (fun h4 h => ?_)
  · exact lf2 h fun e0 e1 => Exists.intro [.nl] (And.intro rfl (And.intro (And.intro (mpn e1) trivial) (And.intro e0 (And.intro trivial trivial))))
  refine CK.call false [] h (fun _ h => con_i_cloneDisk h) (And.intro (And.intro rfl (And.intro rfl trivial)) trivial) trivial rfl (fun _ => rfl) (fun _ => Or.inl rfl) (fun y5 h6 h => ?_)
  refine RN.mk ?_
  refine CK.call false [192] h (fun _ h => con_g_DeleteFunc_File_s1 h) (And.intro rfl (And.intro (And.intro rfl (And.intro trivial (And.intro (And.intro rfl trivial) trivial))) trivial)) (And.intro rfl trivial) rfl (fun _ => rfl) (fun _ => Or.inr (Flat.mk rfl (And.intro trivial (And.intro (FlatO.map fun _ => rfl) trivial)))) (fun y7 h8 h => ?_)
  refine RN.mk ?_
  exact lf2 h fun e0 e1 => Exists.intro [.id 288] (And.intro rfl (And.intro (And.intro (mpe e1) trivial) (And.intro e0 (And.intro trivial trivial))))
theorem con_i_SaveStep {a0 : MDisk} {a1 : MSave} {a2 : Int} {r0 : Int} {r1 : (List MFile)} {r2 : Int} (h : i_SaveStep a0 a1 a2 = some (r0, r1, r2)) : Con Tryz.prog 18 [.agg [.i .i64 a0.Room, .sl 3 (List.map MFile.av a0.Files)], .agg [.i .i64 a1.From, .sl 2 (List.map MAccount.av a1.Books.Accounts), .sl 2 (List.map MInstr.av a1.Books.Instrs), .sl 3 (List.map MBal.av a1.Books.Bals), .sl 5 (List.map MLot.av a1.Books.Lots), .sl 8 (List.map MTrade.av a1.Books.Trades), .i .i64 a1.Books.Lot], .i .i64 a2] [] (.tup [.agg [.i .i64 r0, .own 0], .i .i64 r2]) [some (.arr 3 (List.map MFile.av r1))] := by
  refine con_of_awpF hT mixed (fn := Tryz.f18) Tryz.func18 rfl rfl ?_
  unfold i_SaveStep at h
  refine CK.call false [] h (fun _ h => con_i_SavePack h) (And.intro (And.intro rfl (And.intro rfl (And.intro rfl (And.intro rfl (And.intro rfl (And.intro rfl (And.intro rfl trivial))))))) trivial) trivial rfl (fun _ => rfl) (fun _ => Or.inl rfl) (fun y1 h2 h => ?_)
  refine CK.call false [] h (fun _ h => con_i_DiskOk h) (And.intro (And.intro rfl (And.intro rfl trivial)) trivial) trivial rfl (fun _ => rfl) (fun _ => Or.inl rfl) (fun y3 h4 h => ?_)
  refine PS.ite h (fun h5 h => ?_) (fun h5 h => ?_)
  · exact lf3 h fun e0 e1 e2 => Exists.intro [.nl] (And.intro rfl (And.intro (And.intro (mpn e1) trivial) (And.intro (And.intro e0 (And.intro trivial trivial)) (And.intro e2 trivial))))
  refine CK.call false [] h (fun _ h => con_i_in h) (And.intro rfl (And.intro rfl (And.intro rfl trivial))) trivial rfl (fun _ => rfl) (fun _ => Or.inl rfl) (fun y6 h7 h => ?_)
  refine PS.ite h (fun h8 h => ?_) (fun h8 h => ?_)
  · exact lf3 h fun e0 e1 e2 => Exists.intro [.nl] (And.intro rfl (And.intro (And.intro (mpn e1) trivial) (And.intro (And.intro e0 (And.intro trivial trivial)) (And.intro e2 trivial))))
  refine PS.ite h (fun h9 h => ?_) (fun h9 h => ?_)
  · exact lf3 h fun e0 e1 e2 => Exists.intro [.nl] (And.intro rfl (And.intro (And.intro (mpn e1) trivial) (And.intro (And.intro e0 (And.intro trivial trivial)) (And.intro e2 trivial))))
  refine PS.ite h (fun h10 h => ?_) (fun h10 h => ?_)
  · refine CK.call false [] h (fun _ h => con_i_cloneDisk h) (And.intro (And.intro rfl (And.intro rfl trivial)) trivial) trivial rfl (fun _ => rfl) (fun _ => Or.inl rfl) (fun y11 h12 h => ?_)
    refine RN.mk ?_
    refine CK.call false [448, 432] h (fun _ h => con_i_Disk_drop h) (And.intro rfl (And.intro rfl trivial)) (And.intro (And.intro rfl (And.intro rfl trivial)) (And.intro rfl trivial)) rfl (fun _ => rfl) (fun _ => Or.inl rfl) (fun y13 h14 h => ?_)
    refine RN.mk ?_
    refine CK.call false [] h (fun _ h => con_i_DiskAppend h) (And.intro (And.intro rfl (And.intro rfl trivial)) (And.intro rfl (And.intro rfl trivial))) trivial rfl (fun _ => rfl) (fun _ => Or.inr (Flat.mk rfl (And.intro (FlatO.map fun _ => rfl) trivial))) (fun y15 h16 h => ?_)
    refine RN.mk ?_
    refine PS.ite h (fun h17 h => ?_) (fun h17 h => ?_)
    · refine CK.call false [] h (fun _ h => con_i_cloneDisk h) (And.intro (And.intro rfl (And.intro rfl trivial)) trivial) trivial rfl (fun _ => rfl) (fun _ => Or.inl rfl) (fun y18 h19 h => ?_)
      refine RN.mk ?_
      exact lf3 h fun e0 e1 e2 => Exists.intro [.id 688] (And.intro rfl (And.intro (And.intro (mpe e1) trivial) (And.intro (And.intro e0 (And.intro trivial trivial)) (And.intro e2 trivial))))
    exact lf3 h fun e0 e1 e2 => Exists.intro [.id 528] (And.intro rfl (And.intro (And.intro (mpe e1) trivial) (And.intro (And.intro e0 (And.intro trivial trivial)) (And.intro e2 trivial))))
  refine PS.ite h (fun h20 h => ?_) (fun h20 h => ?_)
  · refine CK.call false [] h (fun _ h => con_i_DiskSync h) (And.intro (And.intro rfl (And.intro rfl trivial)) (And.intro rfl trivial)) trivial rfl (fun _ => rfl) (fun _ => Or.inl rfl) (fun y21 h22 h => ?_)
    refine RN.mk ?_
    exact lf3 h fun e0 e1 e2 => Exists.intro [.id 464] (And.intro rfl (And.intro (And.intro (mpe e1) trivial) (And.intro (And.intro e0 (And.intro trivial trivial)) (And.intro e2 trivial))))
  refine PS.ite h (fun h23 h => ?_) (fun h23 h => ?_)
  · refine CK.call false [] h (fun _ h => con_i_DiskMove h) (And.intro (And.intro rfl (And.intro rfl trivial)) (And.intro rfl (And.intro rfl trivial))) trivial rfl (fun _ => rfl) (fun _ => Or.inl rfl) (fun y24 h25 h => ?_)
    refine RN.mk ?_
    exact lf3 h fun e0 e1 e2 => Exists.intro [.id 496] (And.intro rfl (And.intro (And.intro (mpe e1) trivial) (And.intro (And.intro e0 (And.intro trivial trivial)) (And.intro e2 trivial))))
  refine CK.call false [] h (fun _ h => con_i_SegsClear h) (And.intro (And.intro rfl (And.intro rfl trivial)) (And.intro rfl trivial)) trivial rfl (fun _ => rfl) (fun _ => Or.inl rfl) (fun y26 h27 h => ?_)
  refine RN.mk ?_
  exact lf3 h fun e0 e1 e2 => Exists.intro [.id 496] (And.intro rfl (And.intro (And.intro (mpe e1) trivial) (And.intro (And.intro e0 (And.intro trivial trivial)) (And.intro e2 trivial))))
theorem con_l_heldFileS {a0 : (List MFile)} {a1 : Int} {r0 : Int} (h : l_heldFileS a0 a1 = some r0) : Con Tryz.prog 60 [.sl 3 (List.map MFile.av a0), .i .i64 a1] [] (.i .i64 r0) [] := by
  refine con_of_awpF hT mixed (fn := Tryz.f60) Tryz.func60 rfl rfl ?_
  unfold l_heldFileS at h
  refine LP.fuel (g := l_heldFileS_L1 a0 _) (fun (v12, v13) => ⟨[(0, .sl 3 (List.map MFile.av a0)), (1, .i .i64 v12), (5, .i .i64 v13)], []⟩) h (fun _ h => by cases h) ?_ ?_
  · exact Exists.intro [] (And.intro rfl (And.intro trivial (And.intro rfl (And.intro rfl (And.intro rfl trivial)))))
  intro n v h
  obtain ⟨v12, v13⟩ := v
  rw [l_heldFileS_L1.eq_2] at h
  refine HY.mk (fun _ => ?_)
  refine PS.ite h (fun h14 h => ?_) (fun h14 h => ?_)
  · refine OB.grd h (fun h15 h => ?_)
    refine EX.get h (fun x16 h17 h => ?_)
    refine PS.ite h (fun h18 h => ?_) (fun h18 h => ?_)
    · exact lf1 h fun e0 => Exists.intro [] (And.intro rfl (And.intro trivial e0))
    refine OB.mk h15 ?_
    refine EX.pos h17 ?_
    refine CK.call false [] h (fun _ h => con_l_markText h) (And.intro rfl trivial) trivial rfl (fun _ => rfl) (fun _ => Or.inl rfl) (fun y19 h20 h => ?_)
    refine OB.mk (by kernel_rfl) ?_
    refine PS.ite h (fun h21 h => ?_) (fun h21 h => ?_)
    · exact lf1 h fun e0 => Exists.intro [] (And.intro rfl (And.intro trivial e0))
    refine OB.mk h15 ?_
    refine EX.pos h17 ?_
    refine CK.call false [] h (fun _ h => con_l_markText h) (And.intro rfl trivial) trivial rfl (fun _ => rfl) (fun _ => Or.inl rfl) (fun y22 h23 h => ?_)
    refine OB.mk (by kernel_rfl) ?_
    refine PS.ite h (fun h24 h => ?_) (fun h24 h => ?_)
    · exact lf1 h fun e0 => Exists.intro [] (And.intro rfl (And.intro trivial e0))
    refine NX.next h ?_
    exact Exists.intro [] (And.intro rfl (And.intro trivial (And.intro rfl (And.intro rfl (And.intro rfl trivial)))))
  exact lf1 h fun e0 => Exists.intro [] (And.intro rfl (And.intro trivial e0))
theorem con_l_heldDisk {a0 : MDisk} {a1 : Int} {r0 : Int} (h : l_heldDisk a0 a1 = some r0) : Con Tryz.prog 19 [.agg [.i .i64 a0.Room, .sl 3 (List.map MFile.av a0.Files)], .i .i64 a1] [] (.i .i64 r0) [] := by
  refine con_of_awpF hT mixed (fn := Tryz.f19) Tryz.func19 rfl rfl ?_
  unfold l_heldDisk at h
  refine CK.call false [] h (fun _ h => con_l_heldFileS h) (And.intro rfl (And.intro rfl trivial)) trivial rfl (fun _ => rfl) (fun _ => Or.inl rfl) (fun y1 h2 h => ?_)
  refine PS.ite h (fun h3 h => ?_) (fun h3 h => ?_)
  · exact lf1 h fun e0 => Exists.intro [] (And.intro rfl (And.intro trivial e0))
  exact lf1 h fun e0 => Exists.intro [] (And.intro rfl (And.intro trivial e0))
theorem con_l_FnExactSaveStep {a0 : MDisk} {a1 : MSave} {a2 : Int} {r0 : Bool} (h : l_FnExactSaveStep a0 a1 a2 = some r0) : Con Tryz.prog 4 [.agg [.i .i64 a0.Room, .sl 3 (List.map MFile.av a0.Files)], .agg [.i .i64 a1.From, .sl 2 (List.map MAccount.av a1.Books.Accounts), .sl 2 (List.map MInstr.av a1.Books.Instrs), .sl 3 (List.map MBal.av a1.Books.Bals), .sl 5 (List.map MLot.av a1.Books.Lots), .sl 8 (List.map MTrade.av a1.Books.Trades), .i .i64 a1.Books.Lot], .i .i64 a2] [] (.p (r0 = true)) [] := by
  refine con_of_awpF hT mixed (fn := Tryz.f4) Tryz.func4 rfl rfl ?_
  unfold l_FnExactSaveStep at h
  refine CK.call false [] h (fun _ h => con_l_szDisk h) (And.intro (And.intro rfl (And.intro rfl trivial)) (And.intro rfl trivial)) trivial rfl (fun _ => rfl) (fun _ => Or.inl rfl) (fun y1 h2 h => ?_)
  refine PS.ite h (fun h3 h => ?_) (fun h3 h => ?_)
  · exact lf1 h fun e0 => Exists.intro [] (And.intro rfl (And.intro trivial (be e0)))
  refine CK.call false [] h (fun _ h => con_l_szSave h) (And.intro (And.intro rfl (And.intro rfl (And.intro rfl (And.intro rfl (And.intro rfl (And.intro rfl (And.intro rfl trivial))))))) (And.intro rfl trivial)) trivial rfl (fun _ => rfl) (fun _ => Or.inl rfl) (fun y4 h5 h => ?_)
  refine PS.ite h (fun h6 h => ?_) (fun h6 h => ?_)
  · exact lf1 h fun e0 => Exists.intro [] (And.intro rfl (And.intro trivial (be e0)))
  refine CK.call false [] h (fun _ h => con_l_toDisk h) (And.intro (And.intro rfl (And.intro rfl trivial)) trivial) trivial rfl (fun _ => rfl) (fun _ => Or.inl rfl) (fun y7 h8 h => ?_)
  refine RN.mk ?_
  refine CK.call false [] h (fun _ h => con_l_toSave h) (And.intro (And.intro rfl (And.intro rfl (And.intro rfl (And.intro rfl (And.intro rfl (And.intro rfl (And.intro rfl trivial))))))) trivial) trivial rfl (fun _ => rfl) (fun _ => Or.inl rfl) (fun y9 h10 h => ?_)
  refine RN.mk ?_
  refine RN.mk ?_
  refine RN.mk ?_
  refine RN.mk ?_
  refine RN.mk ?_
  refine CK.call false [] h (fun _ h => con_s_SaveStep h) (And.intro (And.intro rfl (And.intro rfl trivial)) (And.intro (And.intro rfl (And.intro rfl (And.intro rfl (And.intro rfl (And.intro rfl (And.intro rfl (And.intro rfl trivial))))))) (And.intro rfl trivial))) trivial rfl (fun _ => rfl) (fun _ => Or.inr (Flat.mk rfl (And.intro (FlatO.map fun _ => rfl) trivial))) (fun y11 h12 h => ?_)
  refine RN.mk ?_
  refine OB.mk (by kernel_rfl) ?_
  refine CK.call false [] h (fun _ h => con_l_toDisk h) (And.intro (And.intro rfl (And.intro rfl trivial)) trivial) trivial rfl (fun _ => rfl) (fun _ => Or.inl rfl) (fun y13 h14 h => ?_)
  refine RN.mk ?_
  refine CK.call false [] h (fun _ h => con_l_toSave h) (And.intro (And.intro rfl (And.intro rfl (And.intro rfl (And.intro rfl (And.intro rfl (And.intro rfl (And.intro rfl trivial))))))) trivial) trivial rfl (fun _ => rfl) (fun _ => Or.inl rfl) (fun y15 h16 h => ?_)
  refine RN.mk ?_
  refine RN.mk ?_
  refine RN.mk ?_
  refine RN.mk ?_
  refine RN.mk ?_
  refine CK.call false [] h (fun _ h => con_i_SaveStep h) (And.intro (And.intro rfl (And.intro rfl trivial)) (And.intro (And.intro rfl (And.intro rfl (And.intro rfl (And.intro rfl (And.intro rfl (And.intro rfl (And.intro rfl trivial))))))) (And.intro rfl trivial))) trivial rfl (fun _ => rfl) (fun _ => Or.inr (Flat.mk rfl (And.intro (FlatO.map fun _ => rfl) trivial))) (fun y17 h18 h => ?_)
  refine RN.mk ?_
  refine CK.call false [] h (fun _ h => con_l_eqDisk h) (And.intro (And.intro rfl (And.intro rfl trivial)) (And.intro (And.intro rfl (And.intro rfl trivial)) trivial)) trivial rfl (fun _ => rfl) (fun _ => Or.inr (Flat.mk rfl trivial)) (fun y19 h20 h => ?_)
  refine PS.ite h (fun h21 h => ?_) (fun h21 h => ?_)
  · exact lf1 h fun e0 => Exists.intro [] (And.intro rfl (And.intro trivial (be e0)))
  refine PS.ite h (fun h22 h => ?_) (fun h22 h => ?_)
  · exact lf1 h fun e0 => Exists.intro [] (And.intro rfl (And.intro trivial (be e0)))
  refine CK.call false [] h (fun _ h => con_l_toDisk h) (And.intro (And.intro rfl (And.intro rfl trivial)) trivial) trivial rfl (fun _ => rfl) (fun _ => Or.inl rfl) (fun y23 h24 h => ?_)
  refine RN.mk ?_
  refine CK.call false [] h (fun _ h => con_l_eqDisk h) (And.intro (And.intro rfl (And.intro rfl trivial)) (And.intro (And.intro rfl (And.intro rfl trivial)) trivial)) trivial rfl (fun _ => rfl) (fun _ => Or.inr (Flat.mk rfl trivial)) (fun y25 h26 h => ?_)
  refine OB.mk (by kernel_rfl) ?_
  refine PS.ite h (fun h27 h => ?_) (fun h27 h => ?_)
  · exact lf1 h fun e0 => Exists.intro [] (And.intro rfl (And.intro trivial (be e0)))
  refine CK.call false [] h (fun _ h => con_l_toSave h) (And.intro (And.intro rfl (And.intro rfl (And.intro rfl (And.intro rfl (And.intro rfl (And.intro rfl (And.intro rfl trivial))))))) trivial) trivial rfl (fun _ => rfl) (fun _ => Or.inl rfl) (fun y28 h29 h => ?_)
  refine RN.mk ?_
  refine RN.mk ?_
  refine RN.mk ?_
  refine RN.mk ?_
  refine RN.mk ?_
  refine CK.call false [] h (fun _ h => con_l_eqSave h) (And.intro (And.intro rfl (And.intro rfl (And.intro rfl (And.intro rfl (And.intro rfl (And.intro rfl (And.intro rfl trivial))))))) (And.intro (And.intro rfl (And.intro rfl (And.intro rfl (And.intro rfl (And.intro rfl (And.intro rfl (And.intro rfl trivial))))))) trivial)) trivial rfl (fun _ => rfl) (fun _ => Or.inr (Flat.mk rfl trivial)) (fun y30 h31 h => ?_)
  refine OB.mk (by kernel_rfl) ?_
  refine PS.ite h (fun h32 h => ?_) (fun h32 h => ?_)
  · exact lf1 h fun e0 => Exists.intro [] (And.intro rfl (And.intro trivial (be e0)))
  refine CK.call false [464] h (fun _ h => con_l_markDisk h) (And.intro (And.intro rfl (And.intro rfl trivial)) (And.intro rfl trivial)) (And.intro rfl trivial) rfl (fun _ => rfl) (fun _ => Or.inl rfl) (fun y33 h34 h => ?_)
  refine RN.mk ?_
  refine CK.call false [528, 529, 530, 531, 532] h (fun _ h => con_l_markSave h) (And.intro (And.intro rfl (And.intro rfl (And.intro rfl (And.intro rfl (And.intro rfl (And.intro rfl (And.intro rfl trivial))))))) (And.intro rfl trivial)) (And.intro rfl (And.intro rfl (And.intro rfl (And.intro rfl (And.intro rfl trivial))))) rfl (fun _ => rfl) (fun _ => Or.inl rfl) (fun y35 h36 h => ?_)
  refine RN.mk ?_
  refine RN.mk ?_
  refine RN.mk ?_
  refine RN.mk ?_
  refine RN.mk ?_
  refine PS.ite h (fun h37 h => ?_) (fun h37 h => ?_)
  · exact lf1 h fun e0 => Exists.intro [] (And.intro rfl (And.intro trivial (be e0)))
  refine CK.call false [] h (fun _ h => con_l_eqDisk h) (And.intro (And.intro rfl (And.intro rfl trivial)) (And.intro (And.intro rfl (And.intro rfl trivial)) trivial)) trivial rfl (fun _ => rfl) (fun _ => Or.inr (Flat.mk rfl trivial)) (fun y38 h39 h => ?_)
  refine PS.ite h (fun h40 h => ?_) (fun h40 h => ?_)
  · exact lf1 h fun e0 => Exists.intro [] (And.intro rfl (And.intro trivial (be e0)))
  refine PS.neg h22 ?_
  refine CK.call false [624] h (fun _ h => con_l_markDisk h) (And.intro (And.intro rfl (And.intro rfl trivial)) (And.intro rfl trivial)) (And.intro rfl trivial) rfl (fun _ => rfl) (fun _ => Or.inl rfl) (fun y41 h42 h => ?_)
  refine RN.mk ?_
  refine CK.call false [] h (fun _ h => con_l_heldDisk h) (And.intro (And.intro rfl (And.intro rfl trivial)) (And.intro rfl trivial)) trivial rfl (fun _ => rfl) (fun _ => Or.inr (Flat.mk rfl trivial)) (fun y43 h44 h => ?_)
  refine PS.ite h (fun h45 h => ?_) (fun h45 h => ?_)
  · exact lf1 h fun e0 => Exists.intro [] (And.intro rfl (And.intro trivial (be e0)))
  refine PS.ite h (fun h46 h => ?_) (fun h46 h => ?_)
  · exact lf1 h fun e0 => Exists.intro [] (And.intro rfl (And.intro trivial (be e0)))
  refine CK.call false [] h (fun _ h => con_l_toDisk h) (And.intro (And.intro rfl (And.intro rfl trivial)) trivial) trivial rfl (fun _ => rfl) (fun _ => Or.inl rfl) (fun y47 h48 h => ?_)
  refine RN.mk ?_
  refine CK.call false [] h (fun _ h => con_l_toSave h) (And.intro (And.intro rfl (And.intro rfl (And.intro rfl (And.intro rfl (And.intro rfl (And.intro rfl (And.intro rfl trivial))))))) trivial) trivial rfl (fun _ => rfl) (fun _ => Or.inl rfl) (fun y49 h50 h => ?_)
  refine RN.mk ?_
  refine RN.mk ?_
  refine RN.mk ?_
  refine RN.mk ?_
  refine RN.mk ?_
  refine CK.call false [] h (fun _ h => con_i_SaveStep h) (And.intro (And.intro rfl (And.intro rfl trivial)) (And.intro (And.intro rfl (And.intro rfl (And.intro rfl (And.intro rfl (And.intro rfl (And.intro rfl (And.intro rfl trivial))))))) (And.intro rfl trivial))) trivial rfl (fun _ => rfl) (fun _ => Or.inr (Flat.mk rfl (And.intro (FlatO.map fun _ => rfl) trivial))) (fun y51 h52 h => ?_)
  refine RN.mk ?_
  refine OB.mk (by kernel_rfl) ?_
  refine CK.call false [] h (fun _ h => con_l_eqDisk h) (And.intro (And.intro rfl (And.intro rfl trivial)) (And.intro (And.intro rfl (And.intro rfl trivial)) trivial)) trivial rfl (fun _ => rfl) (fun _ => Or.inr (Flat.mk rfl trivial)) (fun y53 h54 h => ?_)
  refine PS.ite h (fun h55 h => ?_) (fun h55 h => ?_)
  · exact lf1 h fun e0 => Exists.intro [] (And.intro rfl (And.intro trivial (be e0)))
  refine PS.ite h (fun h56 h => ?_) (fun h56 h => ?_)
  · exact lf1 h fun e0 => Exists.intro [] (And.intro rfl (And.intro trivial (be e0)))
  refine CK.call false [] h (fun _ h => con_l_heldDisk h) (And.intro (And.intro rfl (And.intro rfl trivial)) (And.intro rfl trivial)) trivial rfl (fun _ => rfl) (fun _ => Or.inr (Flat.mk rfl trivial)) (fun y57 h58 h => ?_)
  refine PS.ite h (fun h59 h => ?_) (fun h59 h => ?_)
  · exact lf1 h fun e0 => Exists.intro [] (And.intro rfl (And.intro trivial (be e0)))
  refine PS.ite h (fun h60 h => ?_) (fun h60 h => ?_)
  · exact lf1 h fun e0 => Exists.intro [] (And.intro rfl (And.intro trivial (be e0)))
  exact lf1 h fun e0 => Exists.intro [] (And.intro rfl (And.intro trivial (be e0)))
theorem con_s_SaveWrite {a0 : MDisk} {a1 : MSave} {r0 : Int} {r1 : (List MFile)} {r2 : Int} (h : s_SaveWrite a0 a1 = some (r0, r1, r2)) : Con Tryz.prog 20 [.agg [.i .i64 a0.Room, .sl 3 (List.map MFile.av a0.Files)], .agg [.i .i64 a1.From, .sl 2 (List.map MAccount.av a1.Books.Accounts), .sl 2 (List.map MInstr.av a1.Books.Instrs), .sl 3 (List.map MBal.av a1.Books.Bals), .sl 5 (List.map MLot.av a1.Books.Lots), .sl 8 (List.map MTrade.av a1.Books.Trades), .i .i64 a1.Books.Lot]] [] (.tup [.agg [.i .i64 r0, .sl 3 (List.map MFile.av r1)], .i .i64 r2]) [] := by
  refine con_of_awpF hT mixed (fn := Tryz.f20) Tryz.func20 rfl rfl ?_
  unfold s_SaveWrite at h
  refine LP.fuel (g := s_SaveWrite_L1 a0 a1 _) (fun (v8, v9, v10) => ⟨[(2, .ptr 0 0), (3, .ptr 1 0), (4, .ptr 2 0), (6, .ptr 3 0), (7, .i .i64 v10)], [some (.box [.i .i64 a0.Room, .sl 3 (List.map MFile.av a0.Files)]), some (.box [.i .i64 a1.From, .sl 2 (List.map MAccount.av a1.Books.Accounts), .sl 2 (List.map MInstr.av a1.Books.Instrs), .sl 3 (List.map MBal.av a1.Books.Bals), .sl 5 (List.map MLot.av a1.Books.Lots), .sl 8 (List.map MTrade.av a1.Books.Trades), .i .i64 a1.Books.Lot]), some (.box [.i .i64 ((0 : Int)), .nil]), some (.box [.i .i64 v8, .sl 3 (List.map MFile.av v9)])]⟩) h (fun _ h => by cases h) ?_ ?_
  · exact Exists.intro [.id 0, .id 16, .id 32, .id 80] (And.intro rfl (And.intro (And.intro (And.intro rfl (And.intro rfl trivial)) (And.intro (And.intro rfl (And.intro rfl (And.intro rfl (And.intro rfl (And.intro rfl (And.intro rfl (And.intro rfl trivial))))))) (And.intro (And.intro rfl (And.intro trivial trivial)) (And.intro (And.intro rfl (And.intro rfl trivial)) trivial)))) (And.intro trivial (And.intro trivial (And.intro trivial (And.intro trivial (And.intro rfl trivial)))))))
  intro n v h
  obtain ⟨v8, v9, v10⟩ := v
  rw [s_SaveWrite_L1.eq_2] at h
  refine PS.ite h (fun h11 h => ?_) (fun h11 h => ?_)
  · refine CK.call true [] h (fun _ h => con_s_SaveStep h) (And.intro (And.intro rfl (And.intro rfl trivial)) (And.intro (And.intro rfl (And.intro rfl (And.intro rfl (And.intro rfl (And.intro rfl (And.intro rfl (And.intro rfl trivial))))))) (And.intro rfl trivial))) trivial rfl (fun _ => rfl) (fun _ => Or.inl rfl) (fun y12 h13 h => ?_)
    refine PS.ite h (fun h14 h => ?_) (fun h14 h => ?_)
    · exact lf3 h fun e0 e1 e2 => Exists.intro [] (And.intro rfl (And.intro trivial (And.intro (And.intro e0 (And.intro (mpn e1) trivial)) (And.intro e2 trivial))))
    refine PS.ite h (fun h15 h => ?_) (fun h15 h => ?_)
    · refine CK.call false [] h (fun _ h => con_s_l14Copy h) (And.intro (And.intro rfl (And.intro rfl trivial)) trivial) trivial rfl (fun _ => rfl) (fun _ => Or.inl rfl) (fun y16 h17 h => ?_)
      refine RN.mk ?_
      exact lf3 h fun e0 e1 e2 => Exists.intro [] (And.intro rfl (And.intro trivial (And.intro (And.intro e0 (And.intro (mpe e1) trivial)) (And.intro e2 trivial))))
    refine NX.next h ?_
    exact Exists.intro [.id 0, .id 1, .id 2, .id 3] (And.intro rfl (And.intro (And.intro (And.intro rfl (And.intro rfl trivial)) (And.intro (And.intro rfl (And.intro rfl (And.intro rfl (And.intro rfl (And.intro rfl (And.intro rfl (And.intro rfl trivial))))))) (And.intro (And.intro rfl (And.intro trivial trivial)) (And.intro (And.intro rfl (And.intro rfl trivial)) trivial)))) (And.intro trivial (And.intro trivial (And.intro trivial (And.intro trivial (And.intro rfl trivial)))))))
  exact lf3 h fun e0 e1 e2 => Exists.intro [] (And.intro rfl (And.intro trivial (And.intro (And.intro e0 (And.intro (mpe e1) trivial)) (And.intro e2 trivial))))
theorem con_i_SaveWrite {a0 : MDisk} {a1 : MSave} {r0 : Int} {r1 : (List MFile)} {r2 : Int} (h : i_SaveWrite a0 a1 = some (r0, r1, r2)) : Con Tryz.prog 21 [.agg [.i .i64 a0.Room, .sl 3 (List.map MFile.av a0.Files)], .agg [.i .i64 a1.From, .sl 2 (List.map MAccount.av a1.Books.Accounts), .sl 2 (List.map MInstr.av a1.Books.Instrs), .sl 3 (List.map MBal.av a1.Books.Bals), .sl 5 (List.map MLot.av a1.Books.Lots), .sl 8 (List.map MTrade.av a1.Books.Trades), .i .i64 a1.Books.Lot]] [] (.tup [.agg [.i .i64 r0, .own 0], .i .i64 r2]) [some (.arr 3 (List.map MFile.av r1))] := by
  refine con_of_awpF hT mixed (fn := Tryz.f21) Tryz.func21 rfl rfl ?_
  unfold i_SaveWrite at h
  refine CK.call false [] h (fun _ h => con_i_cloneDisk h) (And.intro (And.intro rfl (And.intro rfl trivial)) trivial) trivial rfl (fun _ => rfl) (fun _ => Or.inl rfl) (fun y1 h2 h => ?_)
  refine RN.mk ?_
  refine LP.fuel (g := i_SaveWrite_L1 a0 a1 _) (fun (v10, v11, v12) => ⟨[(2, .ptr 0 0), (3, .ptr 1 0), (4, .ptr 2 0), (6, .ptr 3 0), (12, .i .i64 v12)], [some (.box [.i .i64 a0.Room, .sl 3 (List.map MFile.av a0.Files)]), some (.box [.i .i64 a1.From, .sl 2 (List.map MAccount.av a1.Books.Accounts), .sl 2 (List.map MInstr.av a1.Books.Instrs), .sl 3 (List.map MBal.av a1.Books.Bals), .sl 5 (List.map MLot.av a1.Books.Lots), .sl 8 (List.map MTrade.av a1.Books.Trades), .i .i64 a1.Books.Lot]), some (.box [.i .i64 ((0 : Int)), .nil]), some (.box [.i .i64 v10, .own 4]), some (.arr 3 (List.map MFile.av v11))]⟩) h (fun _ h => by cases h) ?_ ?_
  · exact Exists.intro [.id 0, .id 16, .id 32, .id 96, .id 80] (And.intro rfl (And.intro (And.intro (And.intro rfl (And.intro rfl trivial)) (And.intro (And.intro rfl (And.intro rfl (And.intro rfl (And.intro rfl (And.intro rfl (And.intro rfl (And.intro rfl trivial))))))) (And.intro (And.intro rfl (And.intro trivial trivial)) (And.intro (And.intro rfl (And.intro trivial trivial)) (And.intro rfl trivial))))) (And.intro trivial (And.intro trivial (And.intro trivial (And.intro trivial (And.intro rfl trivial)))))))
  intro n v h
  obtain ⟨v10, v11, v12⟩ := v
  rw [i_SaveWrite_L1.eq_2] at h
  refine PS.ite h (fun h13 h => ?_) (fun h13 h => ?_)
  · refine CK.call false [] h (fun _ h => con_i_SaveStep h) (And.intro (And.intro rfl (And.intro rfl trivial)) (And.intro (And.intro rfl (And.intro rfl (And.intro rfl (And.intro rfl (And.intro rfl (And.intro rfl (And.intro rfl trivial))))))) (And.intro rfl trivial))) trivial rfl (fun _ => rfl) (fun _ => Or.inr (Flat.mk rfl (And.intro (FlatO.map fun _ => rfl) trivial))) (fun y14 h15 h => ?_)
    refine RN.mk ?_
    refine PS.ite h (fun h16 h => ?_) (fun h16 h => ?_)
    · refine NX.next h ?_
      exact Exists.intro [.id 0, .id 1, .id 2, .id 3, .id 101] (And.intro rfl (And.intro (And.intro (And.intro rfl (And.intro rfl trivial)) (And.intro (And.intro rfl (And.intro rfl (And.intro rfl (And.intro rfl (And.intro rfl (And.intro rfl (And.intro rfl trivial))))))) (And.intro (And.intro rfl (And.intro trivial trivial)) (And.intro (And.intro rfl (And.intro trivial trivial)) (And.intro rfl trivial))))) (And.intro trivial (And.intro trivial (And.intro trivial (And.intro trivial (And.intro rfl trivial)))))))
    refine PS.ite h (fun h17 h => ?_) (fun h17 h => ?_)
    · exact lf3 h fun e0 e1 e2 => Exists.intro [.nl] (And.intro rfl (And.intro (And.intro (mpn e1) trivial) (And.intro (And.intro e0 (And.intro trivial trivial)) (And.intro e2 trivial))))
    refine CK.call false [] h (fun _ h => con_i_cloneDisk h) (And.intro (And.intro rfl (And.intro rfl trivial)) trivial) trivial rfl (fun _ => rfl) (fun _ => Or.inl rfl) (fun y18 h19 h => ?_)
    refine RN.mk ?_
    exact lf3 h fun e0 e1 e2 => Exists.intro [.id 309] (And.intro rfl (And.intro (And.intro (mpe e1) trivial) (And.intro (And.intro e0 (And.intro trivial trivial)) (And.intro e2 trivial))))
  exact lf3 h fun e0 e1 e2 => Exists.intro [.id 4] (And.intro rfl (And.intro (And.intro (mpe e1) trivial) (And.intro (And.intro e0 (And.intro trivial trivial)) (And.intro e2 trivial))))
theorem con_l_FnExactSaveWrite {a0 : MDisk} {a1 : MSave} {r0 : Bool} (h : l_FnExactSaveWrite a0 a1 = some r0) : Con Tryz.prog 5 [.agg [.i .i64 a0.Room, .sl 3 (List.map MFile.av a0.Files)], .agg [.i .i64 a1.From, .sl 2 (List.map MAccount.av a1.Books.Accounts), .sl 2 (List.map MInstr.av a1.Books.Instrs), .sl 3 (List.map MBal.av a1.Books.Bals), .sl 5 (List.map MLot.av a1.Books.Lots), .sl 8 (List.map MTrade.av a1.Books.Trades), .i .i64 a1.Books.Lot]] [] (.p (r0 = true)) [] := by
  refine con_of_awpF hT mixed (fn := Tryz.f5) Tryz.func5 rfl rfl ?_
  unfold l_FnExactSaveWrite at h
  refine CK.call false [] h (fun _ h => con_l_szDisk h) (And.intro (And.intro rfl (And.intro rfl trivial)) (And.intro rfl trivial)) trivial rfl (fun _ => rfl) (fun _ => Or.inl rfl) (fun y1 h2 h => ?_)
  refine PS.ite h (fun h3 h => ?_) (fun h3 h => ?_)
  · exact lf1 h fun e0 => Exists.intro [] (And.intro rfl (And.intro trivial (be e0)))
  refine CK.call false [] h (fun _ h => con_l_szSave h) (And.intro (And.intro rfl (And.intro rfl (And.intro rfl (And.intro rfl (And.intro rfl (And.intro rfl (And.intro rfl trivial))))))) (And.intro rfl trivial)) trivial rfl (fun _ => rfl) (fun _ => Or.inl rfl) (fun y4 h5 h => ?_)
  refine PS.ite h (fun h6 h => ?_) (fun h6 h => ?_)
  · exact lf1 h fun e0 => Exists.intro [] (And.intro rfl (And.intro trivial (be e0)))
  refine CK.call true [] h (fun _ h => con_l_toDisk h) (And.intro (And.intro rfl (And.intro rfl trivial)) trivial) trivial rfl (fun _ => rfl) (fun _ => Or.inl rfl) (fun y7 h8 h => ?_)
  refine CK.call true [] h (fun _ h => con_l_toSave h) (And.intro (And.intro rfl (And.intro rfl (And.intro rfl (And.intro rfl (And.intro rfl (And.intro rfl (And.intro rfl trivial))))))) trivial) trivial rfl (fun _ => rfl) (fun _ => Or.inl rfl) (fun y9 h10 h => ?_)
  refine CK.call false [] h (fun _ h => con_s_SaveWrite h) (And.intro (And.intro rfl (And.intro rfl trivial)) (And.intro (And.intro rfl (And.intro rfl (And.intro rfl (And.intro rfl (And.intro rfl (And.intro rfl (And.intro rfl trivial))))))) trivial)) trivial rfl (fun _ => rfl) (fun _ => Or.inl rfl) (fun y11 h12 h => ?_)
  refine OB.mk (by kernel_rfl) ?_
  refine CK.call false [] h (fun _ h => con_l_toDisk h) (And.intro (And.intro rfl (And.intro rfl trivial)) trivial) trivial rfl (fun _ => rfl) (fun _ => Or.inl rfl) (fun y13 h14 h => ?_)
  refine RN.mk ?_
  refine CK.call false [] h (fun _ h => con_l_toSave h) (And.intro (And.intro rfl (And.intro rfl (And.intro rfl (And.intro rfl (And.intro rfl (And.intro rfl (And.intro rfl trivial))))))) trivial) trivial rfl (fun _ => rfl) (fun _ => Or.inl rfl) (fun y15 h16 h => ?_)
  refine RN.mk ?_
  refine RN.mk ?_
  refine RN.mk ?_
  refine RN.mk ?_
  refine RN.mk ?_
  refine CK.call false [] h (fun _ h => con_i_SaveWrite h) (And.intro (And.intro rfl (And.intro rfl trivial)) (And.intro (And.intro rfl (And.intro rfl (And.intro rfl (And.intro rfl (And.intro rfl (And.intro rfl (And.intro rfl trivial))))))) trivial)) trivial rfl (fun _ => rfl) (fun _ => Or.inr (Flat.mk rfl (And.intro (FlatO.map fun _ => rfl) trivial))) (fun y17 h18 h => ?_)
  refine RN.mk ?_
  refine CK.call false [] h (fun _ h => con_l_eqDisk h) (And.intro (And.intro rfl (And.intro rfl trivial)) (And.intro (And.intro rfl (And.intro rfl trivial)) trivial)) trivial rfl (fun _ => rfl) (fun _ => Or.inr (Flat.mk rfl trivial)) (fun y19 h20 h => ?_)
  refine PS.ite h (fun h21 h => ?_) (fun h21 h => ?_)
  · exact lf1 h fun e0 => Exists.intro [] (And.intro rfl (And.intro trivial (be e0)))
  refine PS.ite h (fun h22 h => ?_) (fun h22 h => ?_)
  · exact lf1 h fun e0 => Exists.intro [] (And.intro rfl (And.intro trivial (be e0)))
  refine CK.call false [] h (fun _ h => con_l_toDisk h) (And.intro (And.intro rfl (And.intro rfl trivial)) trivial) trivial rfl (fun _ => rfl) (fun _ => Or.inl rfl) (fun y23 h24 h => ?_)
  refine RN.mk ?_
  refine CK.call false [] h (fun _ h => con_l_eqDisk h) (And.intro (And.intro rfl (And.intro rfl trivial)) (And.intro (And.intro rfl (And.intro rfl trivial)) trivial)) trivial rfl (fun _ => rfl) (fun _ => Or.inr (Flat.mk rfl trivial)) (fun y25 h26 h => ?_)
  refine OB.mk (by kernel_rfl) ?_
  refine PS.ite h (fun h27 h => ?_) (fun h27 h => ?_)
  · exact lf1 h fun e0 => Exists.intro [] (And.intro rfl (And.intro trivial (be e0)))
  refine CK.call false [] h (fun _ h => con_l_toSave h) (And.intro (And.intro rfl (And.intro rfl (And.intro rfl (And.intro rfl (And.intro rfl (And.intro rfl (And.intro rfl trivial))))))) trivial) trivial rfl (fun _ => rfl) (fun _ => Or.inl rfl) (fun y28 h29 h => ?_)
  refine RN.mk ?_
  refine RN.mk ?_
  refine RN.mk ?_
  refine RN.mk ?_
  refine RN.mk ?_
  refine CK.call false [] h (fun _ h => con_l_eqSave h) (And.intro (And.intro rfl (And.intro rfl (And.intro rfl (And.intro rfl (And.intro rfl (And.intro rfl (And.intro rfl trivial))))))) (And.intro (And.intro rfl (And.intro rfl (And.intro rfl (And.intro rfl (And.intro rfl (And.intro rfl (And.intro rfl trivial))))))) trivial)) trivial rfl (fun _ => rfl) (fun _ => Or.inr (Flat.mk rfl trivial)) (fun y30 h31 h => ?_)
  refine OB.mk (by kernel_rfl) ?_
  refine PS.ite h (fun h32 h => ?_) (fun h32 h => ?_)
  · exact lf1 h fun e0 => Exists.intro [] (And.intro rfl (And.intro trivial (be e0)))
  refine CK.call false [448] h (fun _ h => con_l_markDisk h) (And.intro (And.intro rfl (And.intro rfl trivial)) (And.intro rfl trivial)) (And.intro rfl trivial) rfl (fun _ => rfl) (fun _ => Or.inl rfl) (fun y33 h34 h => ?_)
  refine RN.mk ?_
  refine CK.call false [512, 513, 514, 515, 516] h (fun _ h => con_l_markSave h) (And.intro (And.intro rfl (And.intro rfl (And.intro rfl (And.intro rfl (And.intro rfl (And.intro rfl (And.intro rfl trivial))))))) (And.intro rfl trivial)) (And.intro rfl (And.intro rfl (And.intro rfl (And.intro rfl (And.intro rfl trivial))))) rfl (fun _ => rfl) (fun _ => Or.inl rfl) (fun y35 h36 h => ?_)
  refine RN.mk ?_
  refine RN.mk ?_
  refine RN.mk ?_
  refine RN.mk ?_
  refine RN.mk ?_
  refine PS.ite h (fun h37 h => ?_) (fun h37 h => ?_)
  · exact lf1 h fun e0 => Exists.intro [] (And.intro rfl (And.intro trivial (be e0)))
  refine CK.call false [] h (fun _ h => con_l_eqDisk h) (And.intro (And.intro rfl (And.intro rfl trivial)) (And.intro (And.intro rfl (And.intro rfl trivial)) trivial)) trivial rfl (fun _ => rfl) (fun _ => Or.inr (Flat.mk rfl trivial)) (fun y38 h39 h => ?_)
  refine PS.ite h (fun h40 h => ?_) (fun h40 h => ?_)
  · exact lf1 h fun e0 => Exists.intro [] (And.intro rfl (And.intro trivial (be e0)))
  refine PS.neg h22 ?_
  refine CK.call false [592] h (fun _ h => con_l_markDisk h) (And.intro (And.intro rfl (And.intro rfl trivial)) (And.intro rfl trivial)) (And.intro rfl trivial) rfl (fun _ => rfl) (fun _ => Or.inl rfl) (fun y41 h42 h => ?_)
  refine RN.mk ?_
  refine CK.call false [] h (fun _ h => con_l_heldDisk h) (And.intro (And.intro rfl (And.intro rfl trivial)) (And.intro rfl trivial)) trivial rfl (fun _ => rfl) (fun _ => Or.inr (Flat.mk rfl trivial)) (fun y43 h44 h => ?_)
  refine PS.ite h (fun h45 h => ?_) (fun h45 h => ?_)
  · exact lf1 h fun e0 => Exists.intro [] (And.intro rfl (And.intro trivial (be e0)))
  refine PS.ite h (fun h46 h => ?_) (fun h46 h => ?_)
  · exact lf1 h fun e0 => Exists.intro [] (And.intro rfl (And.intro trivial (be e0)))
  refine CK.call false [] h (fun _ h => con_l_toDisk h) (And.intro (And.intro rfl (And.intro rfl trivial)) trivial) trivial rfl (fun _ => rfl) (fun _ => Or.inl rfl) (fun y47 h48 h => ?_)
  refine RN.mk ?_
  refine CK.call false [] h (fun _ h => con_l_toSave h) (And.intro (And.intro rfl (And.intro rfl (And.intro rfl (And.intro rfl (And.intro rfl (And.intro rfl (And.intro rfl trivial))))))) trivial) trivial rfl (fun _ => rfl) (fun _ => Or.inl rfl) (fun y49 h50 h => ?_)
  refine RN.mk ?_
  refine RN.mk ?_
  refine RN.mk ?_
  refine RN.mk ?_
  refine RN.mk ?_
  refine CK.call false [] h (fun _ h => con_i_SaveWrite h) (And.intro (And.intro rfl (And.intro rfl trivial)) (And.intro (And.intro rfl (And.intro rfl (And.intro rfl (And.intro rfl (And.intro rfl (And.intro rfl (And.intro rfl trivial))))))) trivial)) trivial rfl (fun _ => rfl) (fun _ => Or.inr (Flat.mk rfl (And.intro (FlatO.map fun _ => rfl) trivial))) (fun y51 h52 h => ?_)
  refine RN.mk ?_
  refine OB.mk (by kernel_rfl) ?_
  refine CK.call false [] h (fun _ h => con_l_eqDisk h) (And.intro (And.intro rfl (And.intro rfl trivial)) (And.intro (And.intro rfl (And.intro rfl trivial)) trivial)) trivial rfl (fun _ => rfl) (fun _ => Or.inr (Flat.mk rfl trivial)) (fun y53 h54 h => ?_)
  refine PS.ite h (fun h55 h => ?_) (fun h55 h => ?_)
  · exact lf1 h fun e0 => Exists.intro [] (And.intro rfl (And.intro trivial (be e0)))
  refine PS.ite h (fun h56 h => ?_) (fun h56 h => ?_)
  · exact lf1 h fun e0 => Exists.intro [] (And.intro rfl (And.intro trivial (be e0)))
  refine CK.call false [] h (fun _ h => con_l_heldDisk h) (And.intro (And.intro rfl (And.intro rfl trivial)) (And.intro rfl trivial)) trivial rfl (fun _ => rfl) (fun _ => Or.inr (Flat.mk rfl trivial)) (fun y57 h58 h => ?_)
  refine PS.ite h (fun h59 h => ?_) (fun h59 h => ?_)
  · exact lf1 h fun e0 => Exists.intro [] (And.intro rfl (And.intro trivial (be e0)))
  refine PS.ite h (fun h60 h => ?_) (fun h60 h => ?_)
  · exact lf1 h fun e0 => Exists.intro [] (And.intro rfl (And.intro trivial (be e0)))
  exact lf1 h fun e0 => Exists.intro [] (And.intro rfl (And.intro trivial (be e0)))

end Go.Proofs.YtbknlijpkabcnaaGreat.K
