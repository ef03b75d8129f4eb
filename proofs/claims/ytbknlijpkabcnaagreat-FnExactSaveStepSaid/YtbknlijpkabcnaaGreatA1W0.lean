/- The functions of the program compute the plain functions. No condition. -/
import Derived.Test.YtbknlijpkabcnaaGreatKT
import Derived.Test.YtbknlijpkabcnaaGreatA1F1
import Derived.Test.YtbknlijpkabcnaaGreatKI
namespace Go.Proofs.YtbknlijpkabcnaaGreat.K
set_option linter.all false
open Go

set_option maxRecDepth 20000
set_option maxHeartbeats 4000000

theorem con_l_szFile {a0 : MFile} {a1 : Int} {r0 : Int} (h : l_szFile a0 a1 = some r0) : Con Tryz.prog 61 [.agg [.i .i64 a0.Name, .s a0.Safe, .s a0.Late], .i .i64 a1] [] (.i .i64 r0) [] := by
  refine con_of_awpF hT mixed (fn := Tryz.f61) Tryz.func61 rfl rfl ?_
  unfold l_szFile at h
  refine HY.mk (fun _ => ?_)
  refine PS.ite h (fun h1 h => ?_) (fun h1 h => ?_)
  · exact lf1 h fun e0 => Exists.intro [] (And.intro rfl (And.intro trivial e0))
  refine HY.mk (fun _ => ?_)
  refine PS.ite h (fun h2 h => ?_) (fun h2 h => ?_)
  · exact lf1 h fun e0 => Exists.intro [] (And.intro rfl (And.intro trivial e0))
  exact lf1 h fun e0 => Exists.intro [] (And.intro rfl (And.intro trivial e0))
theorem con_l_szFileS {a0 : (List MFile)} {a1 : Int} {r0 : Int} (h : l_szFileS a0 a1 = some r0) : Con Tryz.prog 22 [.sl 3 (List.map MFile.av a0), .i .i64 a1] [] (.i .i64 r0) [] := by
  refine con_of_awpF hT mixed (fn := Tryz.f22) Tryz.func22 rfl rfl ?_
  unfold l_szFileS at h
  refine HY.mk (fun _ => ?_)
  refine PS.ite h (fun h1 h => ?_) (fun h1 h => ?_)
  · exact lf1 h fun e0 => Exists.intro [] (And.intro rfl (And.intro trivial e0))
  refine LP.fuel (g := l_szFileS_L1 a0 _) (fun (v9, v10) => ⟨[(0, .sl 3 (List.map MFile.av a0)), (1, .i .i64 v9), (5, .i .i64 v10)], []⟩) h (fun _ h => by cases h) ?_ ?_
  · exact Exists.intro [] (And.intro rfl (And.intro trivial (And.intro rfl (And.intro rfl (And.intro rfl trivial)))))
  intro n v h
  obtain ⟨v9, v10⟩ := v
  rw [l_szFileS_L1.eq_2] at h
  refine HY.mk (fun _ => ?_)
  refine PS.ite h (fun h11 h => ?_) (fun h11 h => ?_)
  · refine OB.grd h (fun h12 h => ?_)
    refine EX.get h (fun x13 h14 h => ?_)
    refine CK.call false [] h (fun _ h => con_l_szFile h) (And.intro (And.intro rfl (And.intro rfl (And.intro rfl trivial))) (And.intro rfl trivial)) trivial rfl (fun _ => rfl) (fun _ => Or.inl rfl) (fun y15 h16 h => ?_)
    refine PS.ite h (fun h17 h => ?_) (fun h17 h => ?_)
    · exact lf1 h fun e0 => Exists.intro [] (And.intro rfl (And.intro trivial e0))
    refine NX.next h ?_
    exact Exists.intro [] (And.intro rfl (And.intro trivial (And.intro rfl (And.intro rfl (And.intro rfl trivial)))))
  exact lf1 h fun e0 => Exists.intro [] (And.intro rfl (And.intro trivial e0))
theorem con_l_szDisk {a0 : MDisk} {a1 : Int} {r0 : Int} (h : l_szDisk a0 a1 = some r0) : Con Tryz.prog 6 [.agg [.i .i64 a0.Room, .sl 3 (List.map MFile.av a0.Files)], .i .i64 a1] [] (.i .i64 r0) [] := by
  refine con_of_awpF hT mixed (fn := Tryz.f6) Tryz.func6 rfl rfl ?_
  unfold l_szDisk at h
  refine CK.call false [] h (fun _ h => con_l_szFileS h) (And.intro rfl (And.intro rfl trivial)) trivial rfl (fun _ => rfl) (fun _ => Or.inl rfl) (fun y1 h2 h => ?_)
  refine PS.ite h (fun h3 h => ?_) (fun h3 h => ?_)
  · exact lf1 h fun e0 => Exists.intro [] (And.intro rfl (And.intro trivial e0))
  exact lf1 h fun e0 => Exists.intro [] (And.intro rfl (And.intro trivial e0))
theorem con_l_toFile {a0 : MFile} {r0 : Int} {r1 : (List UInt8)} {r2 : (List UInt8)} (h : l_toFile a0 = some (r0, r1, r2)) : Con Tryz.prog 65 [.agg [.i .i64 a0.Name, .s a0.Safe, .s a0.Late]] [] (.agg [.i .i64 r0, .s r1, .s r2]) [] := by
  refine con_of_awpF hT mixed (fn := Tryz.f65) Tryz.func65 rfl rfl ?_
  unfold l_toFile at h
  exact lf3 h fun e0 e1 e2 => Exists.intro [] (And.intro rfl (And.intro trivial (And.intro e0 (And.intro e1 (And.intro e2 trivial)))))
theorem con_l_toFileS {a0 : (List MFile)} {r0 : (List MFile)} (h : l_toFileS a0 = some r0) : Con Tryz.prog 28 [.sl 3 (List.map MFile.av a0)] [] (.own 0) [some (.arr 3 (List.map MFile.av r0))] := by
  refine con_of_awpF hT mixed (fn := Tryz.f28) Tryz.func28 rfl rfl ?_
  unfold l_toFileS at h
  refine HY.mk (fun _ => ?_)
  refine OB.grd h (fun h1 h => ?_)
  refine RN.to (List.map MFile.av (List.replicate (Int.toNat (ln (List.map MFile.av a0))) (MFile.mk (0 : Int) ([] : List UInt8) ([] : List UInt8)))) (rep_map rfl) ?_
  refine LP.fuel (g := l_toFileS_L1 a0 _) (fun (v11, v12) => ⟨[(0, .sl 3 (List.map MFile.av a0)), (3, .own 0), (4, .i .i64 v12)], [some (.arr 3 (List.map MFile.av v11))]⟩) h (fun _ h => by cases h) ?_ ?_
  · exact Exists.intro [.id 48] (And.intro rfl (And.intro (And.intro rfl trivial) (And.intro rfl (And.intro trivial (And.intro rfl trivial)))))
  intro n v h
  obtain ⟨v11, v12⟩ := v
  rw [l_toFileS_L1.eq_2] at h
  refine HY.mk (fun _ => ?_)
  refine PS.ite h (fun h13 h => ?_) (fun h13 h => ?_)
  · refine OB.grd h (fun h14 h => ?_)
    refine EX.get h (fun x15 h16 h => ?_)
    refine CK.call false [] h (fun _ h => con_l_toFile h) (And.intro (And.intro rfl (And.intro rfl (And.intro rfl trivial))) trivial) trivial rfl (fun _ => rfl) (fun _ => Or.inl rfl) (fun y17 h18 h => ?_)
    refine OB.grd h (fun h19 h => ?_)
    refine EX.get h (fun x20 h21 h => ?_)
    refine RN.to (List.map MFile.av (List.set v11 (Int.toNat v12) (MFile.mk y17.1 y17.2.1 y17.2.2))) (set_map rfl) ?_
    refine NX.next h ?_
    exact Exists.intro [.id 0] (And.intro rfl (And.intro (And.intro rfl trivial) (And.intro rfl (And.intro trivial (And.intro rfl trivial)))))
  exact lf1 h fun e0 => Exists.intro [.id 0] (And.intro rfl (And.intro (And.intro (mpe e0) trivial) trivial))
theorem con_l_toDisk {a0 : MDisk} {r0 : Int} {r1 : (List MFile)} (h : l_toDisk a0 = some (r0, r1)) : Con Tryz.prog 8 [.agg [.i .i64 a0.Room, .sl 3 (List.map MFile.av a0.Files)]] [] (.agg [.i .i64 r0, .own 0]) [some (.arr 3 (List.map MFile.av r1))] := by
  refine con_of_awpF hT mixed (fn := Tryz.f8) Tryz.func8 rfl rfl ?_
  unfold l_toDisk at h
  refine CK.call false [] h (fun _ h => con_l_toFileS h) (And.intro rfl trivial) trivial rfl (fun _ => rfl) (fun _ => Or.inl rfl) (fun y1 h2 h => ?_)
  refine RN.mk ?_
  exact lf2 h fun e0 e1 => Exists.intro [.id 144] (And.intro rfl (And.intro (And.intro (mpe e1) trivial) (And.intro e0 (And.intro trivial trivial))))
theorem con_s_l14Find {a0 : MDisk} {a1 : Int} {r0 : Int} (h : s_l14Find a0 a1 = some r0) : Con Tryz.prog 44 [.agg [.i .i64 a0.Room, .sl 3 (List.map MFile.av a0.Files)], .i .i64 a1] [] (.i .i64 r0) [] := by
  refine con_of_awpF hT mixed (fn := Tryz.f44) Tryz.func44 rfl rfl ?_
  unfold s_l14Find at h
  refine LP.fuel (g := s_l14Find_L1 a0 a1 _) (fun v6 => ⟨[(1, .i .i64 a1), (2, .ptr 0 0), (5, .i .i64 v6)], [some (.box [.i .i64 a0.Room, .sl 3 (List.map MFile.av a0.Files)])]⟩) h (fun _ h => by cases h) ?_ ?_
  · exact Exists.intro [.id 0] (And.intro rfl (And.intro (And.intro (And.intro rfl (And.intro rfl trivial)) trivial) (And.intro rfl (And.intro trivial (And.intro rfl trivial)))))
  intro n v6 h
  rw [s_l14Find_L1.eq_2] at h
  refine HY.mk (fun _ => ?_)
  refine PS.ite h (fun h7 h => ?_) (fun h7 h => ?_)
  · refine OB.grd h (fun h8 h => ?_)
    refine EX.get h (fun x9 h10 h => ?_)
    refine PS.ite h (fun h11 h => ?_) (fun h11 h => ?_)
    · exact lf1 h fun e0 => Exists.intro [] (And.intro rfl (And.intro trivial e0))
    refine NX.next h ?_
    exact Exists.intro [.id 0] (And.intro rfl (And.intro (And.intro (And.intro rfl (And.intro rfl trivial)) trivial) (And.intro rfl (And.intro trivial (And.intro rfl trivial)))))
  exact lf1 h fun e0 => Exists.intro [] (And.intro rfl (And.intro trivial e0))
theorem con_s_l1In {a0 : Int} {a1 : Int} {a2 : Int} {r0 : Bool} (h : s_l1In a0 a1 a2 = some r0) : Con Tryz.prog 43 [.i .i64 a0, .i .i64 a1, .i .i64 a2] [] (.p (r0 = true)) [] := by
  refine con_of_awpF hT mixed (fn := Tryz.f43) Tryz.func43 rfl rfl ?_
  unfold s_l1In at h
  refine PS.ite h (fun h1 h => ?_) (fun h1 h => ?_)
  · exact lf1 h fun e0 => Exists.intro [] (And.intro rfl (And.intro trivial (pqe e0)))
  exact lf1 h fun e0 => Exists.intro [] (And.intro rfl (And.intro trivial (be e0)))
theorem con_s_l14Size {a0 : MDisk} {r0 : Int} (h : s_l14Size a0 = some r0) : Con Tryz.prog 103 [.agg [.i .i64 a0.Room, .sl 3 (List.map MFile.av a0.Files)]] [] (.i .i64 r0) [] := by
  refine con_of_awpF hT mixed (fn := Tryz.f103) Tryz.func103 rfl rfl ?_
  unfold s_l14Size at h
  refine LP.fuel (g := s_l14Size_L1 a0 _) (fun (v5, v6) => ⟨[(1, .ptr 0 0), (3, .i .i64 v5), (4, .i .i64 v6)], [some (.box [.i .i64 a0.Room, .sl 3 (List.map MFile.av a0.Files)])]⟩) h (fun _ h => by cases h) ?_ ?_
  · exact Exists.intro [.id 0] (And.intro rfl (And.intro (And.intro (And.intro rfl (And.intro rfl trivial)) trivial) (And.intro trivial (And.intro rfl (And.intro rfl trivial)))))
  intro n v h
  obtain ⟨v5, v6⟩ := v
  rw [s_l14Size_L1.eq_2] at h
  refine HY.mk (fun _ => ?_)
  refine PS.ite h (fun h7 h => ?_) (fun h7 h => ?_)
  · refine OB.grd h (fun h8 h => ?_)
    refine EX.get h (fun x9 h10 h => ?_)
    refine HY.mk (fun _ => ?_)
    refine OB.mk h8 ?_
    refine EX.pos h10 ?_
    refine HY.mk (fun _ => ?_)
    refine OB.mk (by kernel_rfl) ?_
    refine NX.next h ?_
    exact Exists.intro [.id 0] (And.intro rfl (And.intro (And.intro (And.intro rfl (And.intro rfl trivial)) trivial) (And.intro trivial (And.intro rfl (And.intro rfl trivial)))))
  exact lf1 h fun e0 => Exists.intro [] (And.intro rfl (And.intro trivial e0))
theorem con_s_l14Name {a0 : Int} {r0 : Bool} (h : s_l14Name a0 = some r0) : Con Tryz.prog 104 [.i .i64 a0] [] (.p (r0 = true)) [] := by
  refine con_of_awpF hT mixed (fn := Tryz.f104) Tryz.func104 rfl rfl ?_
  unfold s_l14Name at h
  refine CK.call false [] h (fun _ h => con_s_l1In h) (And.intro rfl (And.intro rfl (And.intro rfl trivial))) trivial rfl (fun _ => rfl) (fun _ => Or.inl rfl) (fun y1 h2 h => ?_)
  exact lf1 h fun e0 => Exists.intro [] (And.intro rfl (And.intro trivial (be e0)))
theorem con_s_DiskOk {a0 : MDisk} {r0 : Bool} (h : s_DiskOk a0 = some r0) : Con Tryz.prog 42 [.agg [.i .i64 a0.Room, .sl 3 (List.map MFile.av a0.Files)]] [] (.p (r0 = true)) [] := by
  refine con_of_awpF hT mixed (fn := Tryz.f42) Tryz.func42 rfl rfl ?_
  unfold s_DiskOk at h
  refine CK.call false [] h (fun _ h => con_s_l1In h) (And.intro rfl (And.intro rfl (And.intro rfl trivial))) trivial rfl (fun _ => rfl) (fun _ => Or.inl rfl) (fun y1 h2 h => ?_)
  refine PS.ite h (fun h3 h => ?_) (fun h3 h => ?_)
  · refine PS.pos h3 ?_
    iterate 3 refine PS.pos h3 ?_
    refine OB.mk (by kernel_rfl) ?_
    exact lf1 h fun e0 => Exists.intro [] (And.intro rfl (And.intro trivial (be e0)))
  refine PS.neg h3 ?_
  refine PS.neg h3 ?_
  refine HY.mk (fun _ => ?_)
  refine PS.neg h3 ?_
  refine PS.neg h3 ?_
  refine PS.ite h (fun h4 h => ?_) (fun h4 h => ?_)
  · refine PS.pos h4 ?_
    iterate 4 refine PS.pos h4 ?_
    refine OB.mk (by kernel_rfl) ?_
    exact lf1 h fun e0 => Exists.intro [] (And.intro rfl (And.intro trivial (be e0)))
  refine PS.neg h4 ?_
  refine CK.call false [] h (fun _ h => con_s_l14Size h) (And.intro (And.intro rfl (And.intro rfl trivial)) trivial) trivial rfl (fun _ => rfl) (fun _ => Or.inl rfl) (fun y5 h6 h => ?_)
  iterate 4 refine PS.neg h4 ?_
  refine OB.mk (by kernel_rfl) ?_
  refine PS.ite h (fun h7 h => ?_) (fun h7 h => ?_)
  · exact lf1 h fun e0 => Exists.intro [] (And.intro rfl (And.intro trivial (be e0)))
  refine LP.fuel (g := s_DiskOk_L1 a0 _) (fun v20 => ⟨[(1, .ptr 0 0), (3, .i .i64 v20)], [some (.box [.i .i64 a0.Room, .sl 3 (List.map MFile.av a0.Files)])]⟩) h (fun _ h => by cases h) ?_ ?_
  · exact Exists.intro [.id 0] (And.intro rfl (And.intro (And.intro (And.intro rfl (And.intro rfl trivial)) trivial) (And.intro trivial (And.intro rfl trivial))))
  intro n v20 h
  rw [s_DiskOk_L1.eq_2] at h
  refine HY.mk (fun _ => ?_)
  refine PS.ite h (fun h21 h => ?_) (fun h21 h => ?_)
  · refine OB.grd h (fun h22 h => ?_)
    refine EX.get h (fun x23 h24 h => ?_)
    refine CK.call false [] h (fun _ h => con_s_l14Name h) (And.intro rfl trivial) trivial rfl (fun _ => rfl) (fun _ => Or.inl rfl) (fun y25 h26 h => ?_)
    refine PS.ite h (fun h27 h => ?_) (fun h27 h => ?_)
    · refine PS.pos h27 ?_
      iterate 3 refine PS.pos h27 ?_
      refine OB.mk (by kernel_rfl) ?_
      exact lf1 h fun e0 => Exists.intro [] (And.intro rfl (And.intro trivial (be e0)))
    refine PS.neg h27 ?_
    refine PS.neg h27 ?_
    refine PS.ite h (fun h28 h => ?_) (fun h28 h => ?_)
    · refine PS.pos h28 ?_
      iterate 3 refine PS.pos h28 ?_
      refine OB.grd h (fun h29 h => ?_)
      refine EX.get h (fun x30 h31 h => ?_)
      iterate 6 refine PS.pos h28 ?_
      refine OB.mk h22 ?_
      refine EX.pos h24 ?_
      iterate 3 refine PS.pos h28 ?_
      refine PS.neg h27 ?_
      refine PS.pos h28 ?_
      refine PS.neg h27 ?_
      refine OB.mk (by kernel_rfl) ?_
      refine PS.ite h (fun h32 h => ?_) (fun h32 h => ?_)
      · exact lf1 h fun e0 => Exists.intro [] (And.intro rfl (And.intro trivial (be e0)))
      refine NX.next h ?_
      exact Exists.intro [.id 0] (And.intro rfl (And.intro (And.intro (And.intro rfl (And.intro rfl trivial)) trivial) (And.intro trivial (And.intro rfl trivial))))
    iterate 13 refine PS.neg h28 ?_
    refine PS.neg h27 ?_
    refine PS.neg h28 ?_
    refine PS.neg h27 ?_
    refine OB.mk (by kernel_rfl) ?_
    refine NX.next h ?_
    exact Exists.intro [.id 0] (And.intro rfl (And.intro (And.intro (And.intro rfl (And.intro rfl trivial)) trivial) (And.intro trivial (And.intro rfl trivial))))
  exact lf1 h fun e0 => Exists.intro [] (And.intro rfl (And.intro trivial (be e0)))
theorem con_s_DiskRead {a0 : MDisk} {a1 : Int} {r0 : (List UInt8)} {r1 : Bool} (h : s_DiskRead a0 a1 = some (r0, r1)) : Con Tryz.prog 23 [.agg [.i .i64 a0.Room, .sl 3 (List.map MFile.av a0.Files)], .i .i64 a1] [] (.tup [.s r0, .p (r1 = true)]) [] := by
  refine con_of_awpF hT mixed (fn := Tryz.f23) Tryz.func23 rfl rfl ?_
  unfold s_DiskRead at h
  refine CK.call false [] h (fun _ h => con_s_l14Find h) (And.intro (And.intro rfl (And.intro rfl trivial)) (And.intro rfl trivial)) trivial rfl (fun _ => rfl) (fun _ => Or.inl rfl) (fun y1 h2 h => ?_)
  refine CK.call false [] h (fun _ h => con_s_DiskOk h) (And.intro (And.intro rfl (And.intro rfl trivial)) trivial) trivial rfl (fun _ => rfl) (fun _ => Or.inl rfl) (fun y3 h4 h => ?_)
  refine PS.ite h (fun h5 h => ?_) (fun h5 h => ?_)
  · exact lf2 h fun e0 e1 => Exists.intro [] (And.intro rfl (And.intro trivial (And.intro e0 (And.intro (be e1) trivial))))
  refine PS.ite h (fun h6 h => ?_) (fun h6 h => ?_)
  · exact lf2 h fun e0 e1 => Exists.intro [] (And.intro rfl (And.intro trivial (And.intro e0 (And.intro (be e1) trivial))))
  refine OB.grd h (fun h7 h => ?_)
  refine EX.get h (fun x8 h9 h => ?_)
  refine OB.mk h7 ?_
  refine EX.pos h9 ?_
  refine OB.grd h (fun h10 h => ?_)
  refine OB.mk (by kernel_rfl) ?_
  exact lf2 h fun e0 e1 => Exists.intro [] (And.intro rfl (And.intro trivial (And.intro e0 (And.intro (be e1) trivial))))
theorem con_s_GetNum {a0 : (List UInt8)} {a1 : Int} {r0 : Int} {r1 : Int} {r2 : Bool} (h : s_GetNum a0 a1 = some (r0, r1, r2)) : Con Tryz.prog 25 [.sl 1 (List.map u8 a0), .i .i64 a1] [] (.tup [.i .i64 r0, .i .i64 r1, .p (r2 = true)]) [] := by
  refine con_of_awpF hT mixed (fn := Tryz.f25) Tryz.func25 rfl rfl ?_
  unfold s_GetNum at h
  refine PS.ite h (fun h1 h => ?_) (fun h1 h => ?_)
  · exact lf3 h fun e0 e1 e2 => Exists.intro [] (And.intro rfl (And.intro trivial (And.intro e0 (And.intro e1 (And.intro (be e2) trivial)))))
  refine HY.mk (fun _ => ?_)
  refine PS.ite h (fun h2 h => ?_) (fun h2 h => ?_)
  · exact lf3 h fun e0 e1 e2 => Exists.intro [] (And.intro rfl (And.intro trivial (And.intro e0 (And.intro e1 (And.intro (be e2) trivial)))))
  refine LP.fuel (g := s_GetNum_L1 a0 a1 _) (fun (v11, v12, v13) => ⟨[(0, .sl 1 (List.map u8 a0)), (1, .i .i64 a1), (7, .i .i64 v11), (8, .i .i64 v12), (9, .i .i64 v13), (49, .tup []), (50, .tup [])], []⟩) h (fun _ h => by cases h) ?_ ?_
  · exact Exists.intro [] (And.intro rfl (And.intro trivial (And.intro rfl (And.intro rfl (And.intro rfl (And.intro rfl (And.intro rfl (And.intro trivial (And.intro trivial trivial)))))))))
  intro n v h
  obtain ⟨v11, v12, v13⟩ := v
  rw [s_GetNum_L1.eq_2] at h
  refine PS.ite h (fun h14 h => ?_) (fun h14 h => ?_)
  · refine HY.mk (fun _ => ?_)
    refine PS.ite h (fun h15 h => ?_) (fun h15 h => ?_)
    · refine OB.grd h (fun h16 h => ?_)
      refine EX.get h (fun x17 h18 h => ?_)
      refine PS.ite h (fun h19 h => ?_) (fun h19 h => ?_)
      · refine PS.ite h (fun h20 h => ?_) (fun h20 h => ?_)
        · refine PS.ite h (fun h21 h => ?_) (fun h21 h => ?_)
          · exact lf3 h fun e0 e1 e2 => Exists.intro [] (And.intro rfl (And.intro trivial (And.intro e0 (And.intro e1 (And.intro (be e2) trivial)))))
          exact lf3 h fun e0 e1 e2 => Exists.intro [] (And.intro rfl (And.intro trivial (And.intro e0 (And.intro e1 (And.intro (be e2) trivial)))))
        exact lf3 h fun e0 e1 e2 => Exists.intro [] (And.intro rfl (And.intro trivial (And.intro e0 (And.intro e1 (And.intro (be e2) trivial)))))
      refine NX.next h ?_
      exact Exists.intro [] (And.intro rfl (And.intro trivial (And.intro rfl (And.intro rfl (And.intro rfl (And.intro rfl (And.intro rfl (And.intro trivial (And.intro trivial trivial)))))))))
    exact lf3 h fun e0 e1 e2 => Exists.intro [] (And.intro rfl (And.intro trivial (And.intro e0 (And.intro e1 (And.intro (be e2) trivial)))))
  exact lf3 h fun e0 e1 e2 => Exists.intro [] (And.intro rfl (And.intro trivial (And.intro e0 (And.intro e1 (And.intro (be e2) trivial)))))
theorem con_s_Check {a0 : (List UInt8)} {r0 : Int} (h : s_Check a0 = some r0) : Con Tryz.prog 62 [.sl 1 (List.map u8 a0)] [] (.i .i64 r0) [] := by
  refine con_of_awpF hT mixed (fn := Tryz.f62) Tryz.func62 rfl rfl ?_
  unfold s_Check at h
  refine LP.fuel (g := s_Check_L1 a0 _) (fun (v5, v6, v7) => ⟨[(0, .sl 1 (List.map u8 a0)), (3, .i .i64 v5), (4, .i .i64 v6), (5, .i .i64 v7)], []⟩) h (fun _ h => by cases h) ?_ ?_
  · exact Exists.intro [] (And.intro rfl (And.intro trivial (And.intro rfl (And.intro rfl (And.intro rfl (And.intro rfl trivial))))))
  intro n v h
  obtain ⟨v5, v6, v7⟩ := v
  rw [s_Check_L1.eq_2] at h
  refine HY.mk (fun _ => ?_)
  refine PS.ite h (fun h8 h => ?_) (fun h8 h => ?_)
  · refine OB.grd h (fun h9 h => ?_)
    refine EX.get h (fun x10 h11 h => ?_)
    refine NX.next h ?_
    exact Exists.intro [] (And.intro rfl (And.intro trivial (And.intro rfl (And.intro rfl (And.intro rfl (And.intro rfl trivial))))))
  exact lf1 h fun e0 => Exists.intro [] (And.intro rfl (And.intro trivial e0))
theorem con_s_Unseal {a0 : (List UInt8)} {a1 : Int} {r0 : (List UInt8)} {r1 : Int} {r2 : Int} (h : s_Unseal a0 a1 = some (r0, r1, r2)) : Con Tryz.prog 24 [.sl 1 (List.map u8 a0), .i .i64 a1] [] (.tup [.own 0, .i .i64 r1, .i .i64 r2]) [some (.arr 1 (List.map u8 r0))] := by
  refine con_of_awpF hT mixed (fn := Tryz.f24) Tryz.func24 rfl rfl ?_
  unfold s_Unseal at h
  refine CK.call false [] h (fun _ h => con_s_GetNum h) (And.intro rfl (And.intro rfl trivial)) trivial rfl (fun _ => rfl) (fun _ => Or.inl rfl) (fun y1 h2 h => ?_)
  refine PS.ite h (fun h3 h => ?_) (fun h3 h => ?_)
  · refine RN.to (List.map u8 ([] : List UInt8)) rfl ?_
    exact lf3 h fun e0 e1 e2 => Exists.intro [.id 304] (And.intro rfl (And.intro (And.intro (mpe e0) trivial) (And.intro trivial (And.intro e1 (And.intro e2 trivial)))))
  refine PS.ite h (fun h4 h => ?_) (fun h4 h => ?_)
  · refine RN.to (List.map u8 ([] : List UInt8)) rfl ?_
    exact lf3 h fun e0 e1 e2 => Exists.intro [.id 304] (And.intro rfl (And.intro (And.intro (mpe e0) trivial) (And.intro trivial (And.intro e1 (And.intro e2 trivial)))))
  refine HY.mk (fun _ => ?_)
  refine PS.ite h (fun h5 h => ?_) (fun h5 h => ?_)
  · refine RN.to (List.map u8 ([] : List UInt8)) rfl ?_
    exact lf3 h fun e0 e1 e2 => Exists.intro [.id 416] (And.intro rfl (And.intro (And.intro (mpe e0) trivial) (And.intro trivial (And.intro e1 (And.intro e2 trivial)))))
  refine RN.to (List.map u8 ([] : List UInt8)) rfl ?_
  refine OB.grd h (fun h6 h => ?_)
  refine RN.to (List.map u8 (sub a0 (Int.toNat y1.2.1) (Int.toNat (w64 (y1.2.1 + y1.1))) false)) sub_F ?_
  refine OB.app (enc := u8) (l := (sub a0 (Int.toNat y1.2.1) (Int.toNat (w64 (y1.2.1 + y1.1))) false)) rfl (fun _ => rfl) h (fun h7 h => ?_)
  refine RN.to (List.map u8 (([] : List UInt8) ++ (sub a0 (Int.toNat y1.2.1) (Int.toNat (w64 (y1.2.1 + y1.1))) false))) List.map_append.symm ?_
  refine OB.grd h (fun h8 h => ?_)
  refine RN.to (List.map u8 (sub a0 (Int.toNat (w64 (y1.2.1 + y1.1))) (Int.toNat (w64 ((w64 (y1.2.1 + y1.1)) + (4 : Int)))) false)) sub_F ?_
  refine CK.call false [] h (fun _ h => con_s_Check h) (And.intro rfl trivial) trivial rfl (fun _ => rfl) (fun _ => Or.inr (Flat.mk rfl trivial)) (fun y9 h10 h => ?_)
  refine OB.grd h (fun h11 h => ?_)
  refine EX.get h (fun x12 h13 h => ?_)
  refine OB.grd h (fun h14 h => ?_)
  refine EX.get h (fun x15 h16 h => ?_)
  refine OB.grd h (fun h17 h => ?_)
  refine EX.get h (fun x18 h19 h => ?_)
  refine OB.grd h (fun h20 h => ?_)
  refine EX.get h (fun x21 h22 h => ?_)
  refine OB.mk (by kernel_rfl) ?_
  refine PS.ite h (fun h23 h => ?_) (fun h23 h => ?_)
  · refine RN.to (List.map u8 ([] : List UInt8)) rfl ?_
    exact lf3 h fun e0 e1 e2 => Exists.intro [.id 1120] (And.intro rfl (And.intro (And.intro (mpe e0) trivial) (And.intro trivial (And.intro e1 (And.intro e2 trivial)))))
  exact lf3 h fun e0 e1 e2 => Exists.intro [.id 528] (And.intro rfl (And.intro (And.intro (mpe e0) trivial) (And.intro trivial (And.intro e1 (And.intro e2 trivial)))))
theorem con_s_l15Seg {a0 : Int} {r0 : Bool} (h : s_l15Seg a0 = some r0) : Con Tryz.prog 26 [.i .i64 a0] [] (.p (r0 = true)) [] := by
  refine con_of_awpF hT mixed (fn := Tryz.f26) Tryz.func26 rfl rfl ?_
  unfold s_l15Seg at h
  refine CK.call false [] h (fun _ h => con_s_l1In h) (And.intro rfl (And.intro rfl (And.intro rfl trivial))) trivial rfl (fun _ => rfl) (fun _ => Or.inl rfl) (fun y1 h2 h => ?_)
  exact lf1 h fun e0 => Exists.intro [] (And.intro rfl (And.intro trivial (be e0)))
theorem con_s_GetNums {a0 : (List UInt8)} {a1 : Int} {a2 : Int} {r0 : (List Int)} {r1 : Int} {r2 : Bool} (h : s_GetNums a0 a1 a2 = some (r0, r1, r2)) : Con Tryz.prog 122 [.sl 1 (List.map u8 a0), .i .i64 a1, .i .i64 a2] [] (.tup [.own 0, .i .i64 r1, .p (r2 = true)]) [some (.arr 1 (List.map iv r0))] := by
  refine con_of_awpF hT mixed (fn := Tryz.f122) Tryz.func122 rfl rfl ?_
  unfold s_GetNums at h
  refine RN.to (List.map iv ([] : List Int)) rfl ?_
  refine CK.call false [] h (fun _ h => con_s_l1In h) (And.intro rfl (And.intro rfl (And.intro rfl trivial))) trivial rfl (fun _ => rfl) (fun _ => Or.inl rfl) (fun y1 h2 h => ?_)
  refine PS.ite h (fun h3 h => ?_) (fun h3 h => ?_)
  · exact lf3 h fun e0 e1 e2 => Exists.intro [.id 48] (And.intro rfl (And.intro (And.intro (mpe e0) trivial) (And.intro trivial (And.intro e1 (And.intro (be e2) trivial)))))
  refine HY.mk (fun _ => ?_)
  refine CK.call false [] h (fun _ h => con_s_l1In h) (And.intro rfl (And.intro rfl (And.intro rfl trivial))) trivial rfl (fun _ => rfl) (fun _ => Or.inl rfl) (fun y4 h5 h => ?_)
  refine PS.ite h (fun h6 h => ?_) (fun h6 h => ?_)
  · exact lf3 h fun e0 e1 e2 => Exists.intro [.id 48] (And.intro rfl (And.intro (And.intro (mpe e0) trivial) (And.intro trivial (And.intro e1 (And.intro (be e2) trivial)))))
  refine LP.fuel (g := s_GetNums_L1 a0 a2 _) (fun (v12, v13, v14) => ⟨[(0, .sl 1 (List.map u8 a0)), (1, .i .i64 v12), (2, .i .i64 a2), (9, .own 0), (10, .i .i64 v14)], [some (.arr 1 (List.map iv v13))]⟩) h (fun _ h => by cases h) ?_ ?_
  · exact Exists.intro [.id 48] (And.intro rfl (And.intro (And.intro rfl trivial) (And.intro rfl (And.intro rfl (And.intro rfl (And.intro trivial (And.intro rfl trivial)))))))
  intro n v h
  obtain ⟨v12, v13, v14⟩ := v
  rw [s_GetNums_L1.eq_2] at h
  refine PS.ite h (fun h15 h => ?_) (fun h15 h => ?_)
  · refine CK.call false [] h (fun _ h => con_s_GetNum h) (And.intro rfl (And.intro rfl trivial)) trivial rfl (fun _ => rfl) (fun _ => Or.inl rfl) (fun y16 h17 h => ?_)
    refine PS.ite h (fun h18 h => ?_) (fun h18 h => ?_)
    · refine RN.to (List.map iv ([] : List Int)) rfl ?_
      exact lf3 h fun e0 e1 e2 => Exists.intro [.id 241] (And.intro rfl (And.intro (And.intro (mpe e0) trivial) (And.intro trivial (And.intro e1 (And.intro (be e2) trivial)))))
    refine RN.to (List.map iv [y16.1]) rfl ?_
    refine OB.app (enc := iv) (l := [y16.1]) rfl (fun _ => rfl) h (fun h19 h => ?_)
    refine RN.to (List.map iv (v13 ++ [y16.1])) List.map_append.symm ?_
    refine NX.next h ?_
    exact Exists.intro [.id 289] (And.intro rfl (And.intro (And.intro rfl trivial) (And.intro rfl (And.intro rfl (And.intro rfl (And.intro trivial (And.intro rfl trivial)))))))
  exact lf3 h fun e0 e1 e2 => Exists.intro [.id 0] (And.intro rfl (And.intro (And.intro (mpe e0) trivial) (And.intro trivial (And.intro e1 (And.intro (be e2) trivial)))))
theorem con_s_l13Rows {a0 : (List UInt8)} {a1 : Int} {a2 : Int} {a3 : Int} {r0 : (List (List Int))} {r1 : Int} {r2 : Bool} (h : s_l13Rows a0 a1 a2 a3 = some (r0, r1, r2)) : Con Tryz.prog 63 [.sl 1 (List.map u8 a0), .i .i64 a1, .i .i64 a2, .i .i64 a3] [] (.tup [.own 0, .i .i64 r1, .p (r2 = true)]) [some (.arr 1 (List.map (sv 1 iv) r0))] := by
  refine con_of_awpF hT mixed (fn := Tryz.f63) Tryz.func63 rfl rfl ?_
  unfold s_l13Rows at h
  refine RN.to (List.map (sv 1 iv) ([] : List (List Int))) rfl ?_
  refine CK.call false [] h (fun _ h => con_s_GetNum h) (And.intro rfl (And.intro rfl trivial)) trivial rfl (fun _ => rfl) (fun _ => Or.inl rfl) (fun y1 h2 h => ?_)
  refine PS.ite h (fun h3 h => ?_) (fun h3 h => ?_)
  · exact lf3 h fun e0 e1 e2 => Exists.intro [.id 48] (And.intro rfl (And.intro (And.intro (mpe e0) trivial) (And.intro trivial (And.intro e1 (And.intro (be e2) trivial)))))
  refine PS.ite h (fun h4 h => ?_) (fun h4 h => ?_)
  · exact lf3 h fun e0 e1 e2 => Exists.intro [.id 48] (And.intro rfl (And.intro (And.intro (mpe e0) trivial) (And.intro trivial (And.intro e1 (And.intro (be e2) trivial)))))
  refine LP.fuel (g := s_l13Rows_L1 a0 a2 y1 _) (fun (v10, v11, v12) => ⟨[(0, .sl 1 (List.map u8 a0)), (1, .i .i64 v10), (2, .i .i64 a2), (11, .own 0), (12, .i .i64 y1.1), (14, .i .i64 v12)], [some (.arr 1 (List.map (sv 1 iv) v11))]⟩) h (fun _ h => by cases h) ?_ ?_
  · exact Exists.intro [.id 48] (And.intro rfl (And.intro (And.intro rfl trivial) (And.intro rfl (And.intro rfl (And.intro rfl (And.intro trivial (And.intro rfl (And.intro rfl trivial))))))))
  intro n v h
  obtain ⟨v10, v11, v12⟩ := v
  rw [s_l13Rows_L1.eq_2] at h
  refine PS.ite h (fun h13 h => ?_) (fun h13 h => ?_)
  · refine CK.call true [] h (fun _ h => con_s_GetNums h) (And.intro rfl (And.intro rfl (And.intro rfl trivial))) trivial rfl (fun _ => rfl) (fun _ => Or.inl rfl) (fun y14 h15 h => ?_)
    refine PS.ite h (fun h16 h => ?_) (fun h16 h => ?_)
    · exact lf3 h fun e0 e1 e2 => Exists.intro [.id 0] (And.intro rfl (And.intro (And.intro (mpe e0) trivial) (And.intro trivial (And.intro e1 (And.intro (be e2) trivial)))))
    refine RN.to (List.map (sv 1 iv) [y14.1]) rfl ?_
    refine OB.app (enc := (sv 1 iv)) (l := [y14.1]) rfl (fun _ => rfl) h (fun h17 h => ?_)
    refine RN.to (List.map (sv 1 iv) (v11 ++ [y14.1])) List.map_append.symm ?_
    refine NX.next h ?_
    exact Exists.intro [.id 305] (And.intro rfl (And.intro (And.intro rfl trivial) (And.intro rfl (And.intro rfl (And.intro rfl (And.intro trivial (And.intro rfl (And.intro rfl trivial))))))))
  exact lf3 h fun e0 e1 e2 => Exists.intro [.id 0] (And.intro rfl (And.intro (And.intro (mpe e0) trivial) (And.intro trivial (And.intro e1 (And.intro (be e2) trivial)))))
theorem con_s_l3No {a0 : Int} {r0 : Bool} (h : s_l3No a0 = some r0) : Con Tryz.prog 159 [.i .i64 a0] [] (.p (r0 = true)) [] := by
  refine con_of_awpF hT mixed (fn := Tryz.f159) Tryz.func159 rfl rfl ?_
  unfold s_l3No at h
  refine CK.call false [] h (fun _ h => con_s_l1In h) (And.intro rfl (And.intro rfl (And.intro rfl trivial))) trivial rfl (fun _ => rfl) (fun _ => Or.inl rfl) (fun y1 h2 h => ?_)
  exact lf1 h fun e0 => Exists.intro [] (And.intro rfl (And.intro trivial (be e0)))
theorem con_s_AccountsOk {a0 : (List MAccount)} {r0 : Bool} (h : s_AccountsOk a0 = some r0) : Con Tryz.prog 123 [.sl 2 (List.map MAccount.av a0)] [] (.p (r0 = true)) [] := by
  refine con_of_awpF hT mixed (fn := Tryz.f123) Tryz.func123 rfl rfl ?_
  unfold s_AccountsOk at h
  refine HY.mk (fun _ => ?_)
  refine PS.ite h (fun h1 h => ?_) (fun h1 h => ?_)
  · exact lf1 h fun e0 => Exists.intro [] (And.intro rfl (And.intro trivial (be e0)))
  refine LP.fuel (g := s_AccountsOk_L1 a0 _) (fun v17 => ⟨[(0, .sl 2 (List.map MAccount.av a0)), (3, .i .i64 v17)], []⟩) h (fun _ h => by cases h) ?_ ?_
  · exact Exists.intro [] (And.intro rfl (And.intro trivial (And.intro rfl (And.intro rfl trivial))))
  intro n v17 h
  rw [s_AccountsOk_L1.eq_2] at h
  refine HY.mk (fun _ => ?_)
  refine PS.ite h (fun h18 h => ?_) (fun h18 h => ?_)
  · refine OB.grd h (fun h19 h => ?_)
    refine EX.get h (fun x20 h21 h => ?_)
    refine CK.call false [] h (fun _ h => con_s_l3No h) (And.intro rfl trivial) trivial rfl (fun _ => rfl) (fun _ => Or.inl rfl) (fun y22 h23 h => ?_)
    refine PS.ite h (fun h24 h => ?_) (fun h24 h => ?_)
    · refine PS.pos h24 ?_
      iterate 6 refine PS.pos h24 ?_
      refine OB.mk (by kernel_rfl) ?_
      exact lf1 h fun e0 => Exists.intro [] (And.intro rfl (And.intro trivial (be e0)))
    refine PS.neg h24 ?_
    refine PS.neg h24 ?_
    refine OB.mk h19 ?_
    refine EX.pos h21 ?_
    iterate 3 refine PS.neg h24 ?_
    refine CK.call false [] h (fun _ h => con_s_l1In h) (And.intro rfl (And.intro rfl (And.intro rfl trivial))) trivial rfl (fun _ => rfl) (fun _ => Or.inl rfl) (fun y25 h26 h => ?_)
    refine PS.neg h24 ?_
    refine PS.neg h24 ?_
    refine PS.ite h (fun h27 h => ?_) (fun h27 h => ?_)
    · refine PS.pos h27 ?_
      iterate 3 refine PS.pos h27 ?_
      refine OB.mk (by kernel_rfl) ?_
      exact lf1 h fun e0 => Exists.intro [] (And.intro rfl (And.intro trivial (be e0)))
    refine PS.neg h27 ?_
    refine PS.neg h27 ?_
    refine PS.ite h (fun h28 h => ?_) (fun h28 h => ?_)
    · refine PS.pos h28 ?_
      refine PS.pos h28 ?_
      refine PS.pos h28 ?_
      refine OB.grd h (fun h29 h => ?_)
      refine EX.get h (fun x30 h31 h => ?_)
      iterate 5 refine PS.pos h28 ?_
      refine OB.mk h19 ?_
      refine EX.pos h21 ?_
      iterate 3 refine PS.pos h28 ?_
      refine PS.neg h27 ?_
      refine PS.pos h28 ?_
      refine PS.neg h27 ?_
      refine OB.mk (by kernel_rfl) ?_
      refine PS.ite h (fun h32 h => ?_) (fun h32 h => ?_)
      · exact lf1 h fun e0 => Exists.intro [] (And.intro rfl (And.intro trivial (be e0)))
      refine NX.next h ?_
      exact Exists.intro [] (And.intro rfl (And.intro trivial (And.intro rfl (And.intro rfl trivial))))
    iterate 11 refine PS.neg h28 ?_
    refine PS.neg h27 ?_
    refine PS.neg h28 ?_
    refine PS.neg h27 ?_
    refine OB.mk (by kernel_rfl) ?_
    refine NX.next h ?_
    exact Exists.intro [] (And.intro rfl (And.intro trivial (And.intro rfl (And.intro rfl trivial))))
  exact lf1 h fun e0 => Exists.intro [] (And.intro rfl (And.intro trivial (be e0)))
theorem con_s_InstrsOk {a0 : (List MInstr)} {r0 : Bool} (h : s_InstrsOk a0 = some r0) : Con Tryz.prog 124 [.sl 2 (List.map MInstr.av a0)] [] (.p (r0 = true)) [] := by
  refine con_of_awpF hT mixed (fn := Tryz.f124) Tryz.func124 rfl rfl ?_
  unfold s_InstrsOk at h
  refine HY.mk (fun _ => ?_)
  refine PS.ite h (fun h1 h => ?_) (fun h1 h => ?_)
  · exact lf1 h fun e0 => Exists.intro [] (And.intro rfl (And.intro trivial (be e0)))
  refine LP.fuel (g := s_InstrsOk_L1 a0 _) (fun v17 => ⟨[(0, .sl 2 (List.map MInstr.av a0)), (3, .i .i64 v17)], []⟩) h (fun _ h => by cases h) ?_ ?_
  · exact Exists.intro [] (And.intro rfl (And.intro trivial (And.intro rfl (And.intro rfl trivial))))
  intro n v17 h
  rw [s_InstrsOk_L1.eq_2] at h
  refine HY.mk (fun _ => ?_)
  refine PS.ite h (fun h18 h => ?_) (fun h18 h => ?_)
  · refine OB.grd h (fun h19 h => ?_)
    refine EX.get h (fun x20 h21 h => ?_)
    refine CK.call false [] h (fun _ h => con_s_l3No h) (And.intro rfl trivial) trivial rfl (fun _ => rfl) (fun _ => Or.inl rfl) (fun y22 h23 h => ?_)
    refine PS.ite h (fun h24 h => ?_) (fun h24 h => ?_)
    · refine PS.pos h24 ?_
      iterate 6 refine PS.pos h24 ?_
      refine OB.mk (by kernel_rfl) ?_
      exact lf1 h fun e0 => Exists.intro [] (And.intro rfl (And.intro trivial (be e0)))
    refine PS.neg h24 ?_
    refine PS.neg h24 ?_
    refine OB.mk h19 ?_
    refine EX.pos h21 ?_
    iterate 3 refine PS.neg h24 ?_
    refine CK.call false [] h (fun _ h => con_s_l1In h) (And.intro rfl (And.intro rfl (And.intro rfl trivial))) trivial rfl (fun _ => rfl) (fun _ => Or.inl rfl) (fun y25 h26 h => ?_)
    refine PS.neg h24 ?_
    refine PS.neg h24 ?_
    refine PS.ite h (fun h27 h => ?_) (fun h27 h => ?_)
    · refine PS.pos h27 ?_
      iterate 3 refine PS.pos h27 ?_
      refine OB.mk (by kernel_rfl) ?_
      exact lf1 h fun e0 => Exists.intro [] (And.intro rfl (And.intro trivial (be e0)))
    refine PS.neg h27 ?_
    refine PS.neg h27 ?_
    refine PS.ite h (fun h28 h => ?_) (fun h28 h => ?_)
    · refine PS.pos h28 ?_
      refine PS.pos h28 ?_
      refine PS.pos h28 ?_
      refine OB.grd h (fun h29 h => ?_)
      refine EX.get h (fun x30 h31 h => ?_)
      iterate 5 refine PS.pos h28 ?_
      refine OB.mk h19 ?_
      refine EX.pos h21 ?_
      iterate 3 refine PS.pos h28 ?_
      refine PS.neg h27 ?_
      refine PS.pos h28 ?_
      refine PS.neg h27 ?_
      refine OB.mk (by kernel_rfl) ?_
      refine PS.ite h (fun h32 h => ?_) (fun h32 h => ?_)
      · exact lf1 h fun e0 => Exists.intro [] (And.intro rfl (And.intro trivial (be e0)))
      refine NX.next h ?_
      exact Exists.intro [] (And.intro rfl (And.intro trivial (And.intro rfl (And.intro rfl trivial))))
    iterate 11 refine PS.neg h28 ?_
    refine PS.neg h27 ?_
    refine PS.neg h28 ?_
    refine PS.neg h27 ?_
    refine OB.mk (by kernel_rfl) ?_
    refine NX.next h ?_
    exact Exists.intro [] (And.intro rfl (And.intro trivial (And.intro rfl (And.intro rfl trivial))))
  exact lf1 h fun e0 => Exists.intro [] (And.intro rfl (And.intro trivial (be e0)))
theorem con_s_AmountOk {a0 : Int} {r0 : Bool} (h : s_AmountOk a0 = some r0) : Con Tryz.prog 160 [.i .i64 a0] [] (.p (r0 = true)) [] := by
  refine con_of_awpF hT mixed (fn := Tryz.f160) Tryz.func160 rfl rfl ?_
  unfold s_AmountOk at h
  refine CK.call false [] h (fun _ h => con_s_l1In h) (And.intro rfl (And.intro rfl (And.intro rfl trivial))) trivial rfl (fun _ => rfl) (fun _ => Or.inl rfl) (fun y1 h2 h => ?_)
  exact lf1 h fun e0 => Exists.intro [] (And.intro rfl (And.intro trivial (be e0)))
theorem con_s_l4Before {a0 : Int} {a1 : Int} {a2 : Int} {a3 : Int} {r0 : Bool} (h : s_l4Before a0 a1 a2 a3 = some r0) : Con Tryz.prog 161 [.i .i64 a0, .i .i64 a1, .i .i64 a2, .i .i64 a3] [] (.p (r0 = true)) [] := by
  refine con_of_awpF hT mixed (fn := Tryz.f161) Tryz.func161 rfl rfl ?_
  unfold s_l4Before at h
  refine PS.ite h (fun h1 h => ?_) (fun h1 h => ?_)
  · exact lf1 h fun e0 => Exists.intro [] (And.intro rfl (And.intro trivial (be e0)))
  refine PS.ite h (fun h2 h => ?_) (fun h2 h => ?_)
  · exact lf1 h fun e0 => Exists.intro [] (And.intro rfl (And.intro trivial (pqe e0)))
  exact lf1 h fun e0 => Exists.intro [] (And.intro rfl (And.intro trivial (be e0)))
theorem con_s_BalsOk {a0 : (List MBal)} {r0 : Bool} (h : s_BalsOk a0 = some r0) : Con Tryz.prog 125 [.sl 3 (List.map MBal.av a0)] [] (.p (r0 = true)) [] := by
  refine con_of_awpF hT mixed (fn := Tryz.f125) Tryz.func125 rfl rfl ?_
  unfold s_BalsOk at h
  refine HY.mk (fun _ => ?_)
  refine PS.ite h (fun h1 h => ?_) (fun h1 h => ?_)
  · exact lf1 h fun e0 => Exists.intro [] (And.intro rfl (And.intro trivial (be e0)))
  refine LP.fuel (g := s_BalsOk_L1 a0 _) (fun v23 => ⟨[(0, .sl 3 (List.map MBal.av a0)), (3, .i .i64 v23)], []⟩) h (fun _ h => by cases h) ?_ ?_
  · exact Exists.intro [] (And.intro rfl (And.intro trivial (And.intro rfl (And.intro rfl trivial))))
  intro n v23 h
  rw [s_BalsOk_L1.eq_2] at h
  refine HY.mk (fun _ => ?_)
  refine PS.ite h (fun h24 h => ?_) (fun h24 h => ?_)
  · refine OB.grd h (fun h25 h => ?_)
    refine EX.get h (fun x26 h27 h => ?_)
    refine CK.call false [] h (fun _ h => con_s_l3No h) (And.intro rfl trivial) trivial rfl (fun _ => rfl) (fun _ => Or.inl rfl) (fun y28 h29 h => ?_)
    refine PS.ite h (fun h30 h => ?_) (fun h30 h => ?_)
    · refine PS.pos h30 ?_
      iterate 3 refine PS.pos h30 ?_
      refine OB.mk (by kernel_rfl) ?_
      exact lf1 h fun e0 => Exists.intro [] (And.intro rfl (And.intro trivial (be e0)))
    refine PS.neg h30 ?_
    refine PS.neg h30 ?_
    refine CK.call false [] h (fun _ h => con_s_l3No h) (And.intro rfl trivial) trivial rfl (fun _ => rfl) (fun _ => Or.inl rfl) (fun y31 h32 h => ?_)
    refine PS.neg h30 ?_
    refine PS.neg h30 ?_
    refine PS.ite h (fun h33 h => ?_) (fun h33 h => ?_)
    · refine PS.pos h33 ?_
      iterate 3 refine PS.pos h33 ?_
      refine OB.mk (by kernel_rfl) ?_
      exact lf1 h fun e0 => Exists.intro [] (And.intro rfl (And.intro trivial (be e0)))
    refine PS.neg h33 ?_
    refine PS.neg h33 ?_
    refine CK.call false [] h (fun _ h => con_s_AmountOk h) (And.intro rfl trivial) trivial rfl (fun _ => rfl) (fun _ => Or.inl rfl) (fun y34 h35 h => ?_)
    refine PS.neg h33 ?_
    refine PS.neg h33 ?_
    refine PS.ite h (fun h36 h => ?_) (fun h36 h => ?_)
    · refine PS.pos h36 ?_
      refine PS.pos h36 ?_
      refine PS.pos h36 ?_
      refine OB.mk (by kernel_rfl) ?_
      exact lf1 h fun e0 => Exists.intro [] (And.intro rfl (And.intro trivial (be e0)))
    iterate 3 refine PS.neg h36 ?_
    refine PS.ite h (fun h37 h => ?_) (fun h37 h => ?_)
    · refine PS.pos h37 ?_
      iterate 3 refine PS.pos h37 ?_
      refine OB.mk (by kernel_rfl) ?_
      exact lf1 h fun e0 => Exists.intro [] (And.intro rfl (And.intro trivial (be e0)))
    refine PS.neg h37 ?_
    refine PS.neg h37 ?_
    refine PS.ite h (fun h38 h => ?_) (fun h38 h => ?_)
    · refine PS.pos h38 ?_
      refine PS.pos h38 ?_
      refine PS.pos h38 ?_
      refine OB.grd h (fun h39 h => ?_)
      refine EX.get h (fun x40 h41 h => ?_)
      iterate 6 refine PS.pos h38 ?_
      refine OB.mk h39 ?_
      refine EX.pos h41 ?_
      iterate 7 refine PS.pos h38 ?_
      refine CK.call false [] h (fun _ h => con_s_l4Before h) (And.intro rfl (And.intro rfl (And.intro rfl (And.intro rfl trivial)))) trivial rfl (fun _ => rfl) (fun _ => Or.inl rfl) (fun y42 h43 h => ?_)
      refine PS.pos h38 ?_
      refine PS.neg h37 ?_
      refine PS.pos h38 ?_
      refine PS.neg h37 ?_
      refine OB.mk (by kernel_rfl) ?_
      refine PS.ite h (fun h44 h => ?_) (fun h44 h => ?_)
      · exact lf1 h fun e0 => Exists.intro [] (And.intro rfl (And.intro trivial (be e0)))
      refine NX.next h ?_
      exact Exists.intro [] (And.intro rfl (And.intro trivial (And.intro rfl (And.intro rfl trivial))))
    iterate 17 refine PS.neg h38 ?_
    refine PS.neg h37 ?_
    refine PS.neg h38 ?_
    refine PS.neg h37 ?_
    refine OB.mk (by kernel_rfl) ?_
    refine NX.next h ?_
    exact Exists.intro [] (And.intro rfl (And.intro trivial (And.intro rfl (And.intro rfl trivial))))
  exact lf1 h fun e0 => Exists.intro [] (And.intro rfl (And.intro trivial (be e0)))
theorem con_s_l1Some {a0 : Int} {a1 : Int} {r0 : Bool} (h : s_l1Some a0 a1 = some r0) : Con Tryz.prog 164 [.i .i64 a0, .i .i64 a1] [] (.p (r0 = true)) [] := by
  refine con_of_awpF hT mixed (fn := Tryz.f164) Tryz.func164 rfl rfl ?_
  unfold s_l1Some at h
  refine CK.call false [] h (fun _ h => con_s_l1In h) (And.intro rfl (And.intro rfl (And.intro rfl trivial))) trivial rfl (fun _ => rfl) (fun _ => Or.inl rfl) (fun y1 h2 h => ?_)
  exact lf1 h fun e0 => Exists.intro [] (And.intro rfl (And.intro trivial (be e0)))
theorem con_s_l5Right {a0 : MLot} {r0 : Bool} (h : s_l5Right a0 = some r0) : Con Tryz.prog 162 [.agg [.i .i64 a0.Account, .i .i64 a0.Instr, .i .i64 a0.No, .i .i64 a0.Qty, .i .i64 a0.Cost]] [] (.p (r0 = true)) [] := by
  refine con_of_awpF hT mixed (fn := Tryz.f162) Tryz.func162 rfl rfl ?_
  unfold s_l5Right at h
  refine CK.call false [] h (fun _ h => con_s_l3No h) (And.intro rfl trivial) trivial rfl (fun _ => rfl) (fun _ => Or.inl rfl) (fun y1 h2 h => ?_)
  refine PS.ite h (fun h3 h => ?_) (fun h3 h => ?_)
  · refine CK.call false [] h (fun _ h => con_s_l3No h) (And.intro rfl trivial) trivial rfl (fun _ => rfl) (fun _ => Or.inl rfl) (fun y4 h5 h => ?_)
    refine PS.ite h (fun h6 h => ?_) (fun h6 h => ?_)
    · refine CK.call false [] h (fun _ h => con_s_l1In h) (And.intro rfl (And.intro rfl (And.intro rfl trivial))) trivial rfl (fun _ => rfl) (fun _ => Or.inl rfl) (fun y7 h8 h => ?_)
      refine PS.ite h (fun h9 h => ?_) (fun h9 h => ?_)
      · refine CK.call false [] h (fun _ h => con_s_l1Some h) (And.intro rfl (And.intro rfl trivial)) trivial rfl (fun _ => rfl) (fun _ => Or.inl rfl) (fun y10 h11 h => ?_)
        refine PS.ite h (fun h12 h => ?_) (fun h12 h => ?_)
        · refine CK.call false [] h (fun _ h => con_s_l1Some h) (And.intro rfl (And.intro rfl trivial)) trivial rfl (fun _ => rfl) (fun _ => Or.inl rfl) (fun y13 h14 h => ?_)
          exact lf1 h fun e0 => Exists.intro [] (And.intro rfl (And.intro trivial (be e0)))
        exact lf1 h fun e0 => Exists.intro [] (And.intro rfl (And.intro trivial (be e0)))
      exact lf1 h fun e0 => Exists.intro [] (And.intro rfl (And.intro trivial (be e0)))
    exact lf1 h fun e0 => Exists.intro [] (And.intro rfl (And.intro trivial (be e0)))
  exact lf1 h fun e0 => Exists.intro [] (And.intro rfl (And.intro trivial (be e0)))
theorem con_s_l5Before {a0 : MLot} {a1 : MLot} {r0 : Bool} (h : s_l5Before a0 a1 = some r0) : Con Tryz.prog 163 [.agg [.i .i64 a0.Account, .i .i64 a0.Instr, .i .i64 a0.No, .i .i64 a0.Qty, .i .i64 a0.Cost], .agg [.i .i64 a1.Account, .i .i64 a1.Instr, .i .i64 a1.No, .i .i64 a1.Qty, .i .i64 a1.Cost]] [] (.p (r0 = true)) [] := by
  refine con_of_awpF hT mixed (fn := Tryz.f163) Tryz.func163 rfl rfl ?_
  unfold s_l5Before at h
  refine CK.call false [] h (fun _ h => con_s_l4Before h) (And.intro rfl (And.intro rfl (And.intro rfl (And.intro rfl trivial)))) trivial rfl (fun _ => rfl) (fun _ => Or.inl rfl) (fun y1 h2 h => ?_)
  refine PS.ite h (fun h3 h => ?_) (fun h3 h => ?_)
  · exact lf1 h fun e0 => Exists.intro [] (And.intro rfl (And.intro trivial (be e0)))
  refine PS.ite h (fun h4 h => ?_) (fun h4 h => ?_)
  · refine PS.ite h (fun h5 h => ?_) (fun h5 h => ?_)
    · exact lf1 h fun e0 => Exists.intro [] (And.intro rfl (And.intro trivial (pqe e0)))
    exact lf1 h fun e0 => Exists.intro [] (And.intro rfl (And.intro trivial (be e0)))
  exact lf1 h fun e0 => Exists.intro [] (And.intro rfl (And.intro trivial (be e0)))
theorem con_s_LotsOk {a0 : (List MLot)} {r0 : Bool} (h : s_LotsOk a0 = some r0) : Con Tryz.prog 126 [.sl 5 (List.map MLot.av a0)] [] (.p (r0 = true)) [] := by
  refine con_of_awpF hT mixed (fn := Tryz.f126) Tryz.func126 rfl rfl ?_
  unfold s_LotsOk at h
  refine HY.mk (fun _ => ?_)
  refine PS.ite h (fun h1 h => ?_) (fun h1 h => ?_)
  · exact lf1 h fun e0 => Exists.intro [] (And.intro rfl (And.intro trivial (be e0)))
  refine LP.fuel (g := s_LotsOk_L1 a0 _) (fun (v73, v74, v75) => ⟨[(0, .sl 5 (List.map MLot.av a0)), (3, .i .i64 v73), (4, .i .i64 v74), (5, .i .i64 v75)], []⟩) h (fun _ h => by cases h) ?_ ?_
  · exact Exists.intro [] (And.intro rfl (And.intro trivial (And.intro rfl (And.intro rfl (And.intro rfl (And.intro rfl trivial))))))
  intro n v h
  obtain ⟨v73, v74, v75⟩ := v
  rw [s_LotsOk_L1.eq_2] at h
  refine HY.mk (fun _ => ?_)
  refine PS.ite h (fun h76 h => ?_) (fun h76 h => ?_)
  · refine OB.grd h (fun h77 h => ?_)
    refine EX.get h (fun x78 h79 h => ?_)
    refine CK.call false [] h (fun _ h => con_s_l5Right h) (And.intro (And.intro rfl (And.intro rfl (And.intro rfl (And.intro rfl (And.intro rfl trivial))))) trivial) trivial rfl (fun _ => rfl) (fun _ => Or.inl rfl) (fun y80 h81 h => ?_)
    refine PS.ite h (fun h82 h => ?_) (fun h82 h => ?_)
    · refine PS.pos h82 ?_
      iterate 3 refine PS.pos h82 ?_
      refine OB.mk (by kernel_rfl) ?_
      exact lf1 h fun e0 => Exists.intro [] (And.intro rfl (And.intro trivial (be e0)))
    refine PS.neg h82 ?_
    refine PS.neg h82 ?_
    refine PS.ite h (fun h83 h => ?_) (fun h83 h => ?_)
    · refine PS.pos h83 ?_
      refine PS.pos h83 ?_
      refine PS.pos h83 ?_
      refine OB.grd h (fun h84 h => ?_)
      refine EX.get h (fun x85 h86 h => ?_)
      iterate 3 refine PS.pos h83 ?_
      refine CK.call false [] h (fun _ h => con_s_l5Before h) (And.intro (And.intro rfl (And.intro rfl (And.intro rfl (And.intro rfl (And.intro rfl trivial))))) (And.intro (And.intro rfl (And.intro rfl (And.intro rfl (And.intro rfl (And.intro rfl trivial))))) trivial)) trivial rfl (fun _ => rfl) (fun _ => Or.inl rfl) (fun y87 h88 h => ?_)
      refine PS.pos h83 ?_
      refine PS.neg h82 ?_
      refine PS.pos h83 ?_
      refine PS.neg h82 ?_
      refine OB.mk (by kernel_rfl) ?_
      refine PS.ite h (fun h89 h => ?_) (fun h89 h => ?_)
      · exact lf1 h fun e0 => Exists.intro [] (And.intro rfl (And.intro trivial (be e0)))
      refine PS.ite h (fun h90 h => ?_) (fun h90 h => ?_)
      · refine PS.pos h90 ?_
        iterate 8 refine PS.pos h90 ?_
        refine OB.mk (by kernel_rfl) ?_
        refine CK.call false [] h (fun _ h => con_s_AmountOk h) (And.intro rfl trivial) trivial rfl (fun _ => rfl) (fun _ => Or.inl rfl) (fun y91 h92 h => ?_)
        refine PS.ite h (fun h93 h => ?_) (fun h93 h => ?_)
        · exact lf1 h fun e0 => Exists.intro [] (And.intro rfl (And.intro trivial (be e0)))
        refine CK.call false [] h (fun _ h => con_s_AmountOk h) (And.intro rfl trivial) trivial rfl (fun _ => rfl) (fun _ => Or.inl rfl) (fun y94 h95 h => ?_)
        refine PS.ite h (fun h96 h => ?_) (fun h96 h => ?_)
        · exact lf1 h fun e0 => Exists.intro [] (And.intro rfl (And.intro trivial (be e0)))
        refine NX.next h ?_
        exact Exists.intro [] (And.intro rfl (And.intro trivial (And.intro rfl (And.intro rfl (And.intro rfl (And.intro rfl trivial))))))
      iterate 5 refine PS.neg h90 ?_
      refine OB.mk h84 ?_
      refine EX.pos h86 ?_
      iterate 4 refine PS.neg h90 ?_
      refine PS.ite h (fun h97 h => ?_) (fun h97 h => ?_)
      · refine PS.pos h97 ?_
        iterate 8 refine PS.pos h97 ?_
        refine OB.mk (by kernel_rfl) ?_
        refine CK.call false [] h (fun _ h => con_s_AmountOk h) (And.intro rfl trivial) trivial rfl (fun _ => rfl) (fun _ => Or.inl rfl) (fun y98 h99 h => ?_)
        refine PS.ite h (fun h100 h => ?_) (fun h100 h => ?_)
        · exact lf1 h fun e0 => Exists.intro [] (And.intro rfl (And.intro trivial (be e0)))
        refine CK.call false [] h (fun _ h => con_s_AmountOk h) (And.intro rfl trivial) trivial rfl (fun _ => rfl) (fun _ => Or.inl rfl) (fun y101 h102 h => ?_)
        refine PS.ite h (fun h103 h => ?_) (fun h103 h => ?_)
        · exact lf1 h fun e0 => Exists.intro [] (And.intro rfl (And.intro trivial (be e0)))
        refine NX.next h ?_
        exact Exists.intro [] (And.intro rfl (And.intro trivial (And.intro rfl (And.intro rfl (And.intro rfl (And.intro rfl trivial))))))
      iterate 5 refine PS.neg h97 ?_
      refine OB.mk h84 ?_
      refine EX.pos h86 ?_
      iterate 4 refine PS.neg h97 ?_
      refine OB.mk (by kernel_rfl) ?_
      refine PS.ite h (fun h104 h => ?_) (fun h104 h => ?_)
      · refine CK.call false [] h (fun _ h => con_s_AmountOk h) (And.intro rfl trivial) trivial rfl (fun _ => rfl) (fun _ => Or.inl rfl) (fun y105 h106 h => ?_)
        refine PS.ite h (fun h107 h => ?_) (fun h107 h => ?_)
        · exact lf1 h fun e0 => Exists.intro [] (And.intro rfl (And.intro trivial (be e0)))
        refine CK.call false [] h (fun _ h => con_s_AmountOk h) (And.intro rfl trivial) trivial rfl (fun _ => rfl) (fun _ => Or.inl rfl) (fun y108 h109 h => ?_)
        refine PS.ite h (fun h110 h => ?_) (fun h110 h => ?_)
        · exact lf1 h fun e0 => Exists.intro [] (And.intro rfl (And.intro trivial (be e0)))
        refine NX.next h ?_
        exact Exists.intro [] (And.intro rfl (And.intro trivial (And.intro rfl (And.intro rfl (And.intro rfl (And.intro rfl trivial))))))
      refine CK.call false [] h (fun _ h => con_s_AmountOk h) (And.intro rfl trivial) trivial rfl (fun _ => rfl) (fun _ => Or.inl rfl) (fun y111 h112 h => ?_)
      refine PS.ite h (fun h113 h => ?_) (fun h113 h => ?_)
      · exact lf1 h fun e0 => Exists.intro [] (And.intro rfl (And.intro trivial (be e0)))
      refine CK.call false [] h (fun _ h => con_s_AmountOk h) (And.intro rfl trivial) trivial rfl (fun _ => rfl) (fun _ => Or.inl rfl) (fun y114 h115 h => ?_)
      refine PS.ite h (fun h116 h => ?_) (fun h116 h => ?_)
      · exact lf1 h fun e0 => Exists.intro [] (And.intro rfl (And.intro trivial (be e0)))
      refine NX.next h ?_
      exact Exists.intro [] (And.intro rfl (And.intro trivial (And.intro rfl (And.intro rfl (And.intro rfl (And.intro rfl trivial))))))
    iterate 7 refine PS.neg h83 ?_
    refine PS.neg h82 ?_
    refine PS.neg h83 ?_
    refine PS.neg h82 ?_
    refine OB.mk (by kernel_rfl) ?_
    refine PS.ite h (fun h117 h => ?_) (fun h117 h => ?_)
    · refine PS.pos h117 ?_
      iterate 8 refine PS.pos h117 ?_
      refine OB.mk (by kernel_rfl) ?_
      refine CK.call false [] h (fun _ h => con_s_AmountOk h) (And.intro rfl trivial) trivial rfl (fun _ => rfl) (fun _ => Or.inl rfl) (fun y118 h119 h => ?_)
      refine PS.ite h (fun h120 h => ?_) (fun h120 h => ?_)
      · exact lf1 h fun e0 => Exists.intro [] (And.intro rfl (And.intro trivial (be e0)))
      refine CK.call false [] h (fun _ h => con_s_AmountOk h) (And.intro rfl trivial) trivial rfl (fun _ => rfl) (fun _ => Or.inl rfl) (fun y121 h122 h => ?_)
      refine PS.ite h (fun h123 h => ?_) (fun h123 h => ?_)
      · exact lf1 h fun e0 => Exists.intro [] (And.intro rfl (And.intro trivial (be e0)))
      refine NX.next h ?_
      exact Exists.intro [] (And.intro rfl (And.intro trivial (And.intro rfl (And.intro rfl (And.intro rfl (And.intro rfl trivial))))))
    iterate 5 refine PS.neg h117 ?_
    refine OB.grd h (fun h124 h => ?_)
    refine EX.get h (fun x125 h126 h => ?_)
    iterate 4 refine PS.neg h117 ?_
    refine PS.ite h (fun h127 h => ?_) (fun h127 h => ?_)
    · refine PS.pos h127 ?_
      iterate 8 refine PS.pos h127 ?_
      refine OB.mk (by kernel_rfl) ?_
      refine CK.call false [] h (fun _ h => con_s_AmountOk h) (And.intro rfl trivial) trivial rfl (fun _ => rfl) (fun _ => Or.inl rfl) (fun y128 h129 h => ?_)
      refine PS.ite h (fun h130 h => ?_) (fun h130 h => ?_)
      · exact lf1 h fun e0 => Exists.intro [] (And.intro rfl (And.intro trivial (be e0)))
      refine CK.call false [] h (fun _ h => con_s_AmountOk h) (And.intro rfl trivial) trivial rfl (fun _ => rfl) (fun _ => Or.inl rfl) (fun y131 h132 h => ?_)
      refine PS.ite h (fun h133 h => ?_) (fun h133 h => ?_)
      · exact lf1 h fun e0 => Exists.intro [] (And.intro rfl (And.intro trivial (be e0)))
      refine NX.next h ?_
      exact Exists.intro [] (And.intro rfl (And.intro trivial (And.intro rfl (And.intro rfl (And.intro rfl (And.intro rfl trivial))))))
    iterate 5 refine PS.neg h127 ?_
    refine OB.mk h124 ?_
    refine EX.pos h126 ?_
    iterate 4 refine PS.neg h127 ?_
    refine OB.mk (by kernel_rfl) ?_
    refine PS.ite h (fun h134 h => ?_) (fun h134 h => ?_)
    · refine CK.call false [] h (fun _ h => con_s_AmountOk h) (And.intro rfl trivial) trivial rfl (fun _ => rfl) (fun _ => Or.inl rfl) (fun y135 h136 h => ?_)
      refine PS.ite h (fun h137 h => ?_) (fun h137 h => ?_)
      · exact lf1 h fun e0 => Exists.intro [] (And.intro rfl (And.intro trivial (be e0)))
      refine CK.call false [] h (fun _ h => con_s_AmountOk h) (And.intro rfl trivial) trivial rfl (fun _ => rfl) (fun _ => Or.inl rfl) (fun y138 h139 h => ?_)
      refine PS.ite h (fun h140 h => ?_) (fun h140 h => ?_)
      · exact lf1 h fun e0 => Exists.intro [] (And.intro rfl (And.intro trivial (be e0)))
      refine NX.next h ?_
      exact Exists.intro [] (And.intro rfl (And.intro trivial (And.intro rfl (And.intro rfl (And.intro rfl (And.intro rfl trivial))))))
    refine CK.call false [] h (fun _ h => con_s_AmountOk h) (And.intro rfl trivial) trivial rfl (fun _ => rfl) (fun _ => Or.inl rfl) (fun y141 h142 h => ?_)
    refine PS.ite h (fun h143 h => ?_) (fun h143 h => ?_)
    · exact lf1 h fun e0 => Exists.intro [] (And.intro rfl (And.intro trivial (be e0)))
    refine CK.call false [] h (fun _ h => con_s_AmountOk h) (And.intro rfl trivial) trivial rfl (fun _ => rfl) (fun _ => Or.inl rfl) (fun y144 h145 h => ?_)
    refine PS.ite h (fun h146 h => ?_) (fun h146 h => ?_)
    · exact lf1 h fun e0 => Exists.intro [] (And.intro rfl (And.intro trivial (be e0)))
    refine NX.next h ?_
    exact Exists.intro [] (And.intro rfl (And.intro trivial (And.intro rfl (And.intro rfl (And.intro rfl (And.intro rfl trivial))))))
  exact lf1 h fun e0 => Exists.intro [] (And.intro rfl (And.intro trivial (be e0)))
theorem con_s_TradesOk {a0 : (List MTrade)} {r0 : Bool} (h : s_TradesOk a0 = some r0) : Con Tryz.prog 127 [.sl 8 (List.map MTrade.av a0)] [] (.p (r0 = true)) [] := by
  refine con_of_awpF hT mixed (fn := Tryz.f127) Tryz.func127 rfl rfl ?_
  unfold s_TradesOk at h
  refine HY.mk (fun _ => ?_)
  refine PS.ite h (fun h1 h => ?_) (fun h1 h => ?_)
  · exact lf1 h fun e0 => Exists.intro [] (And.intro rfl (And.intro trivial (be e0)))
  refine LP.fuel (g := s_TradesOk_L1 a0 _) (fun v36 => ⟨[(0, .sl 8 (List.map MTrade.av a0)), (3, .i .i64 v36)], []⟩) h (fun _ h => by cases h) ?_ ?_
  · exact Exists.intro [] (And.intro rfl (And.intro trivial (And.intro rfl (And.intro rfl trivial))))
  intro n v36 h
  rw [s_TradesOk_L1.eq_2] at h
  refine HY.mk (fun _ => ?_)
  refine PS.ite h (fun h37 h => ?_) (fun h37 h => ?_)
  · refine OB.grd h (fun h38 h => ?_)
    refine EX.get h (fun x39 h40 h => ?_)
    refine CK.call false [] h (fun _ h => con_s_l3No h) (And.intro rfl trivial) trivial rfl (fun _ => rfl) (fun _ => Or.inl rfl) (fun y41 h42 h => ?_)
    refine PS.ite h (fun h43 h => ?_) (fun h43 h => ?_)
    · refine PS.pos h43 ?_
      iterate 3 refine PS.pos h43 ?_
      refine OB.mk (by kernel_rfl) ?_
      exact lf1 h fun e0 => Exists.intro [] (And.intro rfl (And.intro trivial (be e0)))
    refine PS.neg h43 ?_
    refine PS.neg h43 ?_
    refine CK.call false [] h (fun _ h => con_s_l3No h) (And.intro rfl trivial) trivial rfl (fun _ => rfl) (fun _ => Or.inl rfl) (fun y44 h45 h => ?_)
    refine PS.neg h43 ?_
    refine PS.neg h43 ?_
    refine PS.ite h (fun h46 h => ?_) (fun h46 h => ?_)
    · refine PS.pos h46 ?_
      iterate 3 refine PS.pos h46 ?_
      refine OB.mk (by kernel_rfl) ?_
      exact lf1 h fun e0 => Exists.intro [] (And.intro rfl (And.intro trivial (be e0)))
    refine PS.neg h46 ?_
    refine PS.neg h46 ?_
    refine CK.call false [] h (fun _ h => con_s_l3No h) (And.intro rfl trivial) trivial rfl (fun _ => rfl) (fun _ => Or.inl rfl) (fun y47 h48 h => ?_)
    refine PS.neg h46 ?_
    refine PS.neg h46 ?_
    refine PS.ite h (fun h49 h => ?_) (fun h49 h => ?_)
    · refine PS.pos h49 ?_
      iterate 3 refine PS.pos h49 ?_
      refine OB.mk (by kernel_rfl) ?_
      exact lf1 h fun e0 => Exists.intro [] (And.intro rfl (And.intro trivial (be e0)))
    refine PS.neg h49 ?_
    refine PS.neg h49 ?_
    refine CK.call false [] h (fun _ h => con_s_l3No h) (And.intro rfl trivial) trivial rfl (fun _ => rfl) (fun _ => Or.inl rfl) (fun y50 h51 h => ?_)
    refine PS.neg h49 ?_
    refine PS.neg h49 ?_
    refine PS.ite h (fun h52 h => ?_) (fun h52 h => ?_)
    · refine PS.pos h52 ?_
      iterate 3 refine PS.pos h52 ?_
      refine OB.mk (by kernel_rfl) ?_
      exact lf1 h fun e0 => Exists.intro [] (And.intro rfl (And.intro trivial (be e0)))
    refine PS.neg h52 ?_
    refine PS.neg h52 ?_
    refine CK.call false [] h (fun _ h => con_s_l3No h) (And.intro rfl trivial) trivial rfl (fun _ => rfl) (fun _ => Or.inl rfl) (fun y53 h54 h => ?_)
    refine PS.neg h52 ?_
    refine PS.neg h52 ?_
    refine PS.ite h (fun h55 h => ?_) (fun h55 h => ?_)
    · refine PS.pos h55 ?_
      iterate 4 refine PS.pos h55 ?_
      refine OB.mk (by kernel_rfl) ?_
      exact lf1 h fun e0 => Exists.intro [] (And.intro rfl (And.intro trivial (be e0)))
    iterate 5 refine PS.neg h55 ?_
    refine PS.ite h (fun h56 h => ?_) (fun h56 h => ?_)
    · refine PS.pos h56 ?_
      iterate 3 refine PS.pos h56 ?_
      refine OB.mk (by kernel_rfl) ?_
      exact lf1 h fun e0 => Exists.intro [] (And.intro rfl (And.intro trivial (be e0)))
    refine PS.neg h56 ?_
    refine PS.neg h56 ?_
    refine CK.call false [] h (fun _ h => con_s_l1Some h) (And.intro rfl (And.intro rfl trivial)) trivial rfl (fun _ => rfl) (fun _ => Or.inl rfl) (fun y57 h58 h => ?_)
    refine PS.neg h56 ?_
    refine PS.neg h56 ?_
    refine PS.ite h (fun h59 h => ?_) (fun h59 h => ?_)
    · refine PS.pos h59 ?_
      iterate 3 refine PS.pos h59 ?_
      refine OB.mk (by kernel_rfl) ?_
      exact lf1 h fun e0 => Exists.intro [] (And.intro rfl (And.intro trivial (be e0)))
    refine PS.neg h59 ?_
    refine PS.neg h59 ?_
    refine CK.call false [] h (fun _ h => con_s_l1Some h) (And.intro rfl (And.intro rfl trivial)) trivial rfl (fun _ => rfl) (fun _ => Or.inl rfl) (fun y60 h61 h => ?_)
    refine PS.neg h59 ?_
    refine PS.neg h59 ?_
    refine PS.ite h (fun h62 h => ?_) (fun h62 h => ?_)
    · refine PS.pos h62 ?_
      iterate 3 refine PS.pos h62 ?_
      refine OB.mk (by kernel_rfl) ?_
      exact lf1 h fun e0 => Exists.intro [] (And.intro rfl (And.intro trivial (be e0)))
    refine PS.neg h62 ?_
    refine PS.neg h62 ?_
    refine CK.call false [] h (fun _ h => con_s_l1In h) (And.intro rfl (And.intro rfl (And.intro rfl trivial))) trivial rfl (fun _ => rfl) (fun _ => Or.inl rfl) (fun y63 h64 h => ?_)
    refine PS.neg h62 ?_
    refine PS.neg h62 ?_
    refine PS.ite h (fun h65 h => ?_) (fun h65 h => ?_)
    · refine PS.pos h65 ?_
      iterate 3 refine PS.pos h65 ?_
      refine OB.mk (by kernel_rfl) ?_
      exact lf1 h fun e0 => Exists.intro [] (And.intro rfl (And.intro trivial (be e0)))
    refine PS.neg h65 ?_
    refine PS.neg h65 ?_
    refine PS.ite h (fun h66 h => ?_) (fun h66 h => ?_)
    · refine PS.pos h66 ?_
      refine PS.pos h66 ?_
      refine PS.pos h66 ?_
      refine OB.grd h (fun h67 h => ?_)
      refine EX.get h (fun x68 h69 h => ?_)
      iterate 5 refine PS.pos h66 ?_
      refine PS.neg h65 ?_
      refine PS.pos h66 ?_
      refine PS.neg h65 ?_
      refine OB.mk (by kernel_rfl) ?_
      refine PS.ite h (fun h70 h => ?_) (fun h70 h => ?_)
      · exact lf1 h fun e0 => Exists.intro [] (And.intro rfl (And.intro trivial (be e0)))
      refine NX.next h ?_
      exact Exists.intro [] (And.intro rfl (And.intro trivial (And.intro rfl (And.intro rfl trivial))))
    iterate 8 refine PS.neg h66 ?_
    refine PS.neg h65 ?_
    refine PS.neg h66 ?_
    refine PS.neg h65 ?_
    refine OB.mk (by kernel_rfl) ?_
    refine NX.next h ?_
    exact Exists.intro [] (And.intro rfl (And.intro trivial (And.intro rfl (And.intro rfl trivial))))
  exact lf1 h fun e0 => Exists.intro [] (And.intro rfl (And.intro trivial (be e0)))
theorem con_s_AccountKind {a0 : (List MAccount)} {a1 : Int} {r0 : Int} (h : s_AccountKind a0 a1 = some r0) : Con Tryz.prog 130 [.sl 2 (List.map MAccount.av a0), .i .i64 a1] [] (.i .i64 r0) [] := by
  refine con_of_awpF hT mixed (fn := Tryz.f130) Tryz.func130 rfl rfl ?_
  unfold s_AccountKind at h
  refine LP.fuel (g := s_AccountKind_L1 a0 a1 _) (fun v9 => ⟨[(0, .sl 2 (List.map MAccount.av a0)), (1, .i .i64 a1), (5, .i .i64 v9)], []⟩) h (fun _ h => by cases h) ?_ ?_
  · exact Exists.intro [] (And.intro rfl (And.intro trivial (And.intro rfl (And.intro rfl (And.intro rfl trivial)))))
  intro n v9 h
  rw [s_AccountKind_L1.eq_2] at h
  refine HY.mk (fun _ => ?_)
  refine PS.ite h (fun h10 h => ?_) (fun h10 h => ?_)
  · refine CK.call false [] h (fun _ h => con_s_AccountsOk h) (And.intro rfl trivial) trivial rfl (fun _ => rfl) (fun _ => Or.inl rfl) (fun y11 h12 h => ?_)
    refine PS.ite h (fun h13 h => ?_) (fun h13 h => ?_)
    · refine OB.grd h (fun h14 h => ?_)
      refine EX.get h (fun x15 h16 h => ?_)
      refine PS.ite h (fun h17 h => ?_) (fun h17 h => ?_)
      · refine OB.mk h14 ?_
        refine EX.pos h16 ?_
        exact lf1 h fun e0 => Exists.intro [] (And.intro rfl (And.intro trivial e0))
      refine NX.next h ?_
      exact Exists.intro [] (And.intro rfl (And.intro trivial (And.intro rfl (And.intro rfl (And.intro rfl trivial)))))
    exact lf1 h fun e0 => Exists.intro [] (And.intro rfl (And.intro trivial e0))
  exact lf1 h fun e0 => Exists.intro [] (And.intro rfl (And.intro trivial e0))
theorem con_s_InstrKind {a0 : (List MInstr)} {a1 : Int} {r0 : Int} (h : s_InstrKind a0 a1 = some r0) : Con Tryz.prog 131 [.sl 2 (List.map MInstr.av a0), .i .i64 a1] [] (.i .i64 r0) [] := by
  refine con_of_awpF hT mixed (fn := Tryz.f131) Tryz.func131 rfl rfl ?_
  unfold s_InstrKind at h
  refine LP.fuel (g := s_InstrKind_L1 a0 a1 _) (fun v9 => ⟨[(0, .sl 2 (List.map MInstr.av a0)), (1, .i .i64 a1), (5, .i .i64 v9)], []⟩) h (fun _ h => by cases h) ?_ ?_
  · exact Exists.intro [] (And.intro rfl (And.intro trivial (And.intro rfl (And.intro rfl (And.intro rfl trivial)))))
  intro n v9 h
  rw [s_InstrKind_L1.eq_2] at h
  refine HY.mk (fun _ => ?_)
  refine PS.ite h (fun h10 h => ?_) (fun h10 h => ?_)
  · refine CK.call false [] h (fun _ h => con_s_InstrsOk h) (And.intro rfl trivial) trivial rfl (fun _ => rfl) (fun _ => Or.inl rfl) (fun y11 h12 h => ?_)
    refine PS.ite h (fun h13 h => ?_) (fun h13 h => ?_)
    · refine OB.grd h (fun h14 h => ?_)
      refine EX.get h (fun x15 h16 h => ?_)
      refine PS.ite h (fun h17 h => ?_) (fun h17 h => ?_)
      · refine OB.mk h14 ?_
        refine EX.pos h16 ?_
        exact lf1 h fun e0 => Exists.intro [] (And.intro rfl (And.intro trivial e0))
      refine NX.next h ?_
      exact Exists.intro [] (And.intro rfl (And.intro trivial (And.intro rfl (And.intro rfl (And.intro rfl trivial)))))
    exact lf1 h fun e0 => Exists.intro [] (And.intro rfl (And.intro trivial e0))
  exact lf1 h fun e0 => Exists.intro [] (And.intro rfl (And.intro trivial e0))
theorem con_s_l1Told {a0 : Int} {a1 : Bool} {r0 : Int} {r1 : Bool} (h : s_l1Told a0 a1 = some (r0, r1)) : Con Tryz.prog 189 [.i .i64 a0, .p (a1 = true)] [] (.tup [.i .i64 r0, .p (r1 = true)]) [] := by
  refine con_of_awpF hT mixed (fn := Tryz.f189) Tryz.func189 rfl rfl ?_
  unfold s_l1Told at h
  refine PS.ite h (fun h1 h => ?_) (fun h1 h => ?_)
  · exact lf2 h fun e0 e1 => Exists.intro [] (And.intro rfl (And.intro trivial (And.intro e0 (And.intro (be e1) trivial))))
  refine CK.call false [] h (fun _ h => con_s_AmountOk h) (And.intro rfl trivial) trivial rfl (fun _ => rfl) (fun _ => Or.inl rfl) (fun y2 h3 h => ?_)
  refine PS.ite h (fun h4 h => ?_) (fun h4 h => ?_)
  · exact lf2 h fun e0 e1 => Exists.intro [] (And.intro rfl (And.intro trivial (And.intro e0 (And.intro (be e1) trivial))))
  exact lf2 h fun e0 e1 => Exists.intro [] (And.intro rfl (And.intro trivial (And.intro e0 (And.intro (be e1) trivial))))
theorem con_s_BalsSum {a0 : (List MBal)} {a1 : Int} {r0 : Int} {r1 : Bool} (h : s_BalsSum a0 a1 = some (r0, r1)) : Con Tryz.prog 165 [.sl 3 (List.map MBal.av a0), .i .i64 a1] [] (.tup [.i .i64 r0, .p (r1 = true)]) [] := by
  refine con_of_awpF hT mixed (fn := Tryz.f165) Tryz.func165 rfl rfl ?_
  unfold s_BalsSum at h
  refine LP.fuel (g := s_BalsSum_L1 a0 a1 _) (fun (v9, v10) => ⟨[(0, .sl 3 (List.map MBal.av a0)), (1, .i .i64 a1), (6, .i .i64 v9), (7, .i .i64 v10)], []⟩) h (fun _ h => by cases h) ?_ ?_
  · exact Exists.intro [] (And.intro rfl (And.intro trivial (And.intro rfl (And.intro rfl (And.intro rfl (And.intro rfl trivial))))))
  intro n v h
  obtain ⟨v9, v10⟩ := v
  rw [s_BalsSum_L1.eq_2] at h
  refine HY.mk (fun _ => ?_)
  refine PS.ite h (fun h11 h => ?_) (fun h11 h => ?_)
  · refine CK.call false [] h (fun _ h => con_s_BalsOk h) (And.intro rfl trivial) trivial rfl (fun _ => rfl) (fun _ => Or.inl rfl) (fun y12 h13 h => ?_)
    refine PS.ite h (fun h14 h => ?_) (fun h14 h => ?_)
    · refine OB.grd h (fun h15 h => ?_)
      refine EX.get h (fun x16 h17 h => ?_)
      refine PS.ite h (fun h18 h => ?_) (fun h18 h => ?_)
      · refine OB.mk h15 ?_
        refine EX.pos h17 ?_
        refine NX.next h ?_
        exact Exists.intro [] (And.intro rfl (And.intro trivial (And.intro rfl (And.intro rfl (And.intro rfl (And.intro rfl trivial))))))
      refine NX.next h ?_
      exact Exists.intro [] (And.intro rfl (And.intro trivial (And.intro rfl (And.intro rfl (And.intro rfl (And.intro rfl trivial))))))
    refine CK.call false [] h (fun _ h => con_s_BalsOk h) (And.intro rfl trivial) trivial rfl (fun _ => rfl) (fun _ => Or.inl rfl) (fun y20 h21 h => ?_)
    refine CK.call false [] h (fun _ h => con_s_l1Told h) (And.intro rfl (And.intro Iff.rfl trivial)) trivial rfl (fun _ => rfl) (fun _ => Or.inl rfl) (fun y22 h23 h => ?_)
    exact lf2 h fun e0 e1 => Exists.intro [] (And.intro rfl (And.intro trivial (And.intro e0 (And.intro (be e1) trivial))))
  refine CK.call false [] h (fun _ h => con_s_BalsOk h) (And.intro rfl trivial) trivial rfl (fun _ => rfl) (fun _ => Or.inl rfl) (fun y20 h21 h => ?_)
  refine CK.call false [] h (fun _ h => con_s_l1Told h) (And.intro rfl (And.intro Iff.rfl trivial)) trivial rfl (fun _ => rfl) (fun _ => Or.inl rfl) (fun y22 h23 h => ?_)
  exact lf2 h fun e0 e1 => Exists.intro [] (And.intro rfl (And.intro trivial (And.intro e0 (And.intro (be e1) trivial))))
theorem con_s_l6Bals {a0 : MBooks} {r0 : Bool} (h : s_l6Bals a0 = some r0) : Con Tryz.prog 128 [.agg [.sl 2 (List.map MAccount.av a0.Accounts), .sl 2 (List.map MInstr.av a0.Instrs), .sl 3 (List.map MBal.av a0.Bals), .sl 5 (List.map MLot.av a0.Lots), .sl 8 (List.map MTrade.av a0.Trades), .i .i64 a0.Lot]] [] (.p (r0 = true)) [] := by
  refine con_of_awpF hT mixed (fn := Tryz.f128) Tryz.func128 rfl rfl ?_
  unfold s_l6Bals at h
  refine LP.fuel (g := s_l6Bals_L1 a0 _) (fun v21 => ⟨[(1, .ptr 0 0), (3, .i .i64 v21)], [some (.box [.sl 2 (List.map MAccount.av a0.Accounts), .sl 2 (List.map MInstr.av a0.Instrs), .sl 3 (List.map MBal.av a0.Bals), .sl 5 (List.map MLot.av a0.Lots), .sl 8 (List.map MTrade.av a0.Trades), .i .i64 a0.Lot])]⟩) h (fun _ h => by cases h) ?_ ?_
  · exact Exists.intro [.id 0] (And.intro rfl (And.intro (And.intro (And.intro rfl (And.intro rfl (And.intro rfl (And.intro rfl (And.intro rfl (And.intro rfl trivial)))))) trivial) (And.intro trivial (And.intro rfl trivial))))
  intro n v21 h
  rw [s_l6Bals_L1.eq_2] at h
  refine HY.mk (fun _ => ?_)
  refine PS.ite h (fun h22 h => ?_) (fun h22 h => ?_)
  · refine OB.grd h (fun h23 h => ?_)
    refine EX.get h (fun x24 h25 h => ?_)
    refine CK.call false [] h (fun _ h => con_s_AccountKind h) (And.intro rfl (And.intro rfl trivial)) trivial rfl (fun _ => rfl) (fun _ => Or.inl rfl) (fun y26 h27 h => ?_)
    refine PS.ite h (fun h28 h => ?_) (fun h28 h => ?_)
    · exact lf1 h fun e0 => Exists.intro [] (And.intro rfl (And.intro trivial (be e0)))
    refine CK.call false [] h (fun _ h => con_s_InstrKind h) (And.intro rfl (And.intro rfl trivial)) trivial rfl (fun _ => rfl) (fun _ => Or.inl rfl) (fun y29 h30 h => ?_)
    refine PS.ite h (fun h31 h => ?_) (fun h31 h => ?_)
    · exact lf1 h fun e0 => Exists.intro [] (And.intro rfl (And.intro trivial (be e0)))
    refine PS.ite h (fun h32 h => ?_) (fun h32 h => ?_)
    · refine PS.ite h (fun h33 h => ?_) (fun h33 h => ?_)
      · exact lf1 h fun e0 => Exists.intro [] (And.intro rfl (And.intro trivial (be e0)))
      refine CK.call false [] h (fun _ h => con_s_BalsSum h) (And.intro rfl (And.intro rfl trivial)) trivial rfl (fun _ => rfl) (fun _ => Or.inl rfl) (fun y34 h35 h => ?_)
      refine PS.ite h (fun h36 h => ?_) (fun h36 h => ?_)
      · exact lf1 h fun e0 => Exists.intro [] (And.intro rfl (And.intro trivial (be e0)))
      refine PS.ite h (fun h37 h => ?_) (fun h37 h => ?_)
      · exact lf1 h fun e0 => Exists.intro [] (And.intro rfl (And.intro trivial (be e0)))
      refine NX.next h ?_
      exact Exists.intro [.id 0] (And.intro rfl (And.intro (And.intro (And.intro rfl (And.intro rfl (And.intro rfl (And.intro rfl (And.intro rfl (And.intro rfl trivial)))))) trivial) (And.intro trivial (And.intro rfl trivial))))
    refine CK.call false [] h (fun _ h => con_s_BalsSum h) (And.intro rfl (And.intro rfl trivial)) trivial rfl (fun _ => rfl) (fun _ => Or.inl rfl) (fun y38 h39 h => ?_)
    refine PS.ite h (fun h40 h => ?_) (fun h40 h => ?_)
    · exact lf1 h fun e0 => Exists.intro [] (And.intro rfl (And.intro trivial (be e0)))
    refine PS.ite h (fun h41 h => ?_) (fun h41 h => ?_)
    · exact lf1 h fun e0 => Exists.intro [] (And.intro rfl (And.intro trivial (be e0)))
    refine NX.next h ?_
    exact Exists.intro [.id 0] (And.intro rfl (And.intro (And.intro (And.intro rfl (And.intro rfl (And.intro rfl (And.intro rfl (And.intro rfl (And.intro rfl trivial)))))) trivial) (And.intro trivial (And.intro rfl trivial))))
  exact lf1 h fun e0 => Exists.intro [] (And.intro rfl (And.intro trivial (be e0)))
theorem con_s_l5Split {a0 : (List MLot)} {a1 : Int} {a2 : Int} {r0 : (List MLot)} {r1 : (List MLot)} (h : s_l5Split a0 a1 a2 = some (r0, r1)) : Con Tryz.prog 166 [.sl 5 (List.map MLot.av a0), .i .i64 a1, .i .i64 a2] [] (.tup [.own 0, .own 1]) [some (.arr 5 (List.map MLot.av r0)), some (.arr 5 (List.map MLot.av r1))] := by
  refine con_of_awpF hT mixed (fn := Tryz.f166) Tryz.func166 rfl rfl ?_
  unfold s_l5Split at h
  refine RN.to (List.map MLot.av ([] : List MLot)) rfl ?_
  refine RN.to (List.map MLot.av ([] : List MLot)) rfl ?_
  refine LP.fuel (g := s_l5Split_L1 a0 a1 a2 _) (fun (v10, v11, v12) => ⟨[(0, .sl 5 (List.map MLot.av a0)), (1, .i .i64 a1), (2, .i .i64 a2), (8, .own 0), (9, .own 1), (10, .i .i64 v12)], [some (.arr 5 (List.map MLot.av v10)), some (.arr 5 (List.map MLot.av v11))]⟩) h (fun _ h => by cases h) ?_ ?_
  · exact Exists.intro [.id 32, .id 48] (And.intro rfl (And.intro (And.intro rfl (And.intro rfl trivial)) (And.intro rfl (And.intro rfl (And.intro rfl (And.intro trivial (And.intro trivial (And.intro rfl trivial))))))))
  intro n v h
  obtain ⟨v10, v11, v12⟩ := v
  rw [s_l5Split_L1.eq_2] at h
  refine HY.mk (fun _ => ?_)
  refine PS.ite h (fun h13 h => ?_) (fun h13 h => ?_)
  · refine OB.grd h (fun h14 h => ?_)
    refine EX.get h (fun x15 h16 h => ?_)
    refine PS.ite h (fun h17 h => ?_) (fun h17 h => ?_)
    · refine OB.mk h14 ?_
      refine EX.pos h16 ?_
      refine PS.ite h (fun h18 h => ?_) (fun h18 h => ?_)
      · refine OB.mk h14 ?_
        refine EX.pos h16 ?_
        refine RN.to (List.map MLot.av [x15]) rfl ?_
        refine OB.app (enc := MLot.av) (l := [x15]) rfl (fun _ => rfl) h (fun h19 h => ?_)
        refine RN.to (List.map MLot.av (v10 ++ [x15])) List.map_append.symm ?_
        refine NX.next h ?_
        exact Exists.intro [.id 418, .id 1] (And.intro rfl (And.intro (And.intro rfl (And.intro rfl trivial)) (And.intro rfl (And.intro rfl (And.intro rfl (And.intro trivial (And.intro trivial (And.intro rfl trivial))))))))
      refine OB.mk h14 ?_
      refine EX.pos h16 ?_
      refine RN.to (List.map MLot.av [x15]) rfl ?_
      refine OB.app (enc := MLot.av) (l := [x15]) rfl (fun _ => rfl) h (fun h20 h => ?_)
      refine RN.to (List.map MLot.av (v11 ++ [x15])) List.map_append.symm ?_
      refine NX.next h ?_
      exact Exists.intro [.id 0, .id 418] (And.intro rfl (And.intro (And.intro rfl (And.intro rfl trivial)) (And.intro rfl (And.intro rfl (And.intro rfl (And.intro trivial (And.intro trivial (And.intro rfl trivial))))))))
    refine OB.mk h14 ?_
    refine EX.pos h16 ?_
    refine RN.to (List.map MLot.av [x15]) rfl ?_
    refine OB.app (enc := MLot.av) (l := [x15]) rfl (fun _ => rfl) h (fun h21 h => ?_)
    refine RN.to (List.map MLot.av (v11 ++ [x15])) List.map_append.symm ?_
    refine NX.next h ?_
    exact Exists.intro [.id 0, .id 418] (And.intro rfl (And.intro (And.intro rfl (And.intro rfl trivial)) (And.intro rfl (And.intro rfl (And.intro rfl (And.intro trivial (And.intro trivial (And.intro rfl trivial))))))))
  exact lf2 h fun e0 e1 => Exists.intro [.id 0, .id 1] (And.intro rfl (And.intro (And.intro (mpe e0) (And.intro (mpe e1) trivial)) (And.intro trivial (And.intro trivial trivial))))
theorem con_s_l5Qty {a0 : (List MLot)} {r0 : Int} (h : s_l5Qty a0 = some r0) : Con Tryz.prog 167 [.sl 5 (List.map MLot.av a0)] [] (.i .i64 r0) [] := by
  refine con_of_awpF hT mixed (fn := Tryz.f167) Tryz.func167 rfl rfl ?_
  unfold s_l5Qty at h
  refine LP.fuel (g := s_l5Qty_L1 a0 _) (fun (v5, v6) => ⟨[(0, .sl 5 (List.map MLot.av a0)), (3, .i .i64 v5), (4, .i .i64 v6)], []⟩) h (fun _ h => by cases h) ?_ ?_
  · exact Exists.intro [] (And.intro rfl (And.intro trivial (And.intro rfl (And.intro rfl (And.intro rfl trivial)))))
  intro n v h
  obtain ⟨v5, v6⟩ := v
  rw [s_l5Qty_L1.eq_2] at h
  refine HY.mk (fun _ => ?_)
  refine PS.ite h (fun h7 h => ?_) (fun h7 h => ?_)
  · refine OB.grd h (fun h8 h => ?_)
    refine EX.get h (fun x9 h10 h => ?_)
    refine NX.next h ?_
    exact Exists.intro [] (And.intro rfl (And.intro trivial (And.intro rfl (And.intro rfl (And.intro rfl trivial)))))
  exact lf1 h fun e0 => Exists.intro [] (And.intro rfl (And.intro trivial e0))
theorem con_s_l4Of {a0 : (List MBal)} {a1 : Int} {a2 : Int} {r0 : Int} (h : s_l4Of a0 a1 a2 = some r0) : Con Tryz.prog 168 [.sl 3 (List.map MBal.av a0), .i .i64 a1, .i .i64 a2] [] (.i .i64 r0) [] := by
  refine con_of_awpF hT mixed (fn := Tryz.f168) Tryz.func168 rfl rfl ?_
  unfold s_l4Of at h
  refine LP.fuel (g := s_l4Of_L1 a0 a1 a2 _) (fun v7 => ⟨[(0, .sl 3 (List.map MBal.av a0)), (1, .i .i64 a1), (2, .i .i64 a2), (7, .i .i64 v7)], []⟩) h (fun _ h => by cases h) ?_ ?_
  · exact Exists.intro [] (And.intro rfl (And.intro trivial (And.intro rfl (And.intro rfl (And.intro rfl (And.intro rfl trivial))))))
  intro n v7 h
  rw [s_l4Of_L1.eq_2] at h
  refine HY.mk (fun _ => ?_)
  refine PS.ite h (fun h8 h => ?_) (fun h8 h => ?_)
  · refine OB.grd h (fun h9 h => ?_)
    refine EX.get h (fun x10 h11 h => ?_)
    refine PS.ite h (fun h12 h => ?_) (fun h12 h => ?_)
    · refine OB.mk h9 ?_
      refine EX.pos h11 ?_
      refine PS.ite h (fun h13 h => ?_) (fun h13 h => ?_)
      · refine OB.mk h9 ?_
        refine EX.pos h11 ?_
        exact lf1 h fun e0 => Exists.intro [] (And.intro rfl (And.intro trivial e0))
      refine NX.next h ?_
      exact Exists.intro [] (And.intro rfl (And.intro trivial (And.intro rfl (And.intro rfl (And.intro rfl (And.intro rfl trivial))))))
    refine NX.next h ?_
    exact Exists.intro [] (And.intro rfl (And.intro trivial (And.intro rfl (And.intro rfl (And.intro rfl (And.intro rfl trivial))))))
  exact lf1 h fun e0 => Exists.intro [] (And.intro rfl (And.intro trivial e0))
theorem con_s_l6Lots {a0 : MBooks} {r0 : Bool} (h : s_l6Lots a0 = some r0) : Con Tryz.prog 129 [.agg [.sl 2 (List.map MAccount.av a0.Accounts), .sl 2 (List.map MInstr.av a0.Instrs), .sl 3 (List.map MBal.av a0.Bals), .sl 5 (List.map MLot.av a0.Lots), .sl 8 (List.map MTrade.av a0.Trades), .i .i64 a0.Lot]] [] (.p (r0 = true)) [] := by
  refine con_of_awpF hT mixed (fn := Tryz.f129) Tryz.func129 rfl rfl ?_
  unfold s_l6Lots at h
  refine LP.fuel (g := s_l6Lots_L1 a0 _) (fun v12 => ⟨[(1, .ptr 0 0), (3, .i .i64 v12), (64, .tup []), (65, .tup []), (66, .tup []), (67, .tup []), (68, .tup []), (69, .tup []), (70, .tup [])], [some (.box [.sl 2 (List.map MAccount.av a0.Accounts), .sl 2 (List.map MInstr.av a0.Instrs), .sl 3 (List.map MBal.av a0.Bals), .sl 5 (List.map MLot.av a0.Lots), .sl 8 (List.map MTrade.av a0.Trades), .i .i64 a0.Lot])]⟩) h (fun _ h => by cases h) ?_ ?_
  · exact Exists.intro [.id 0] (And.intro rfl (And.intro (And.intro (And.intro rfl (And.intro rfl (And.intro rfl (And.intro rfl (And.intro rfl (And.intro rfl trivial)))))) trivial) (And.intro trivial (And.intro rfl (And.intro trivial (And.intro trivial (And.intro trivial (And.intro trivial (And.intro trivial (And.intro trivial (And.intro trivial trivial)))))))))))
  intro n v12 h
  rw [s_l6Lots_L1.eq_2] at h
  refine HY.mk (fun _ => ?_)
  refine PS.ite h (fun h13 h => ?_) (fun h13 h => ?_)
  · refine OB.grd h (fun h14 h => ?_)
    refine EX.get h (fun x15 h16 h => ?_)
    refine CK.call false [] h (fun _ h => con_s_AccountKind h) (And.intro rfl (And.intro rfl trivial)) trivial rfl (fun _ => rfl) (fun _ => Or.inl rfl) (fun y17 h18 h => ?_)
    refine PS.ite h (fun h19 h => ?_) (fun h19 h => ?_)
    · exact lf1 h fun e0 => Exists.intro [] (And.intro rfl (And.intro trivial (be e0)))
    refine CK.call false [] h (fun _ h => con_s_InstrKind h) (And.intro rfl (And.intro rfl trivial)) trivial rfl (fun _ => rfl) (fun _ => Or.inl rfl) (fun y20 h21 h => ?_)
    refine PS.ite h (fun h22 h => ?_) (fun h22 h => ?_)
    · exact lf1 h fun e0 => Exists.intro [] (And.intro rfl (And.intro trivial (be e0)))
    refine PS.ite h (fun h23 h => ?_) (fun h23 h => ?_)
    · exact lf1 h fun e0 => Exists.intro [] (And.intro rfl (And.intro trivial (be e0)))
    refine NX.next h ?_
    exact Exists.intro [.id 0] (And.intro rfl (And.intro (And.intro (And.intro rfl (And.intro rfl (And.intro rfl (And.intro rfl (And.intro rfl (And.intro rfl trivial)))))) trivial) (And.intro trivial (And.intro rfl (And.intro trivial (And.intro trivial (And.intro trivial (And.intro trivial (And.intro trivial (And.intro trivial (And.intro trivial trivial)))))))))))
  refine LP.fuel (g := s_l6Lots_L2 a0 _) (fun v57 => ⟨[(1, .ptr 0 0), (5, .i .i64 v57)], [some (.box [.sl 2 (List.map MAccount.av a0.Accounts), .sl 2 (List.map MInstr.av a0.Instrs), .sl 3 (List.map MBal.av a0.Bals), .sl 5 (List.map MLot.av a0.Lots), .sl 8 (List.map MTrade.av a0.Trades), .i .i64 a0.Lot])]⟩) h (fun _ h => by cases h) ?_ ?_
  · exact Exists.intro [.id 0] (And.intro rfl (And.intro (And.intro (And.intro rfl (And.intro rfl (And.intro rfl (And.intro rfl (And.intro rfl (And.intro rfl trivial)))))) trivial) (And.intro trivial (And.intro rfl trivial))))
  intro n v57 h
  rw [s_l6Lots_L2.eq_2] at h
  refine HY.mk (fun _ => ?_)
  refine PS.ite h (fun h58 h => ?_) (fun h58 h => ?_)
  · refine LP.fuel (g := s_l6Lots_L3 a0 v57 _) (fun v75 => ⟨[(1, .ptr 0 0), (5, .i .i64 v57), (6, .i .i64 v75)], [some (.box [.sl 2 (List.map MAccount.av a0.Accounts), .sl 2 (List.map MInstr.av a0.Instrs), .sl 3 (List.map MBal.av a0.Bals), .sl 5 (List.map MLot.av a0.Lots), .sl 8 (List.map MTrade.av a0.Trades), .i .i64 a0.Lot])]⟩) h (fun _ h => by cases h) ?_ ?_
    · exact Exists.intro [.id 0] (And.intro rfl (And.intro (And.intro (And.intro rfl (And.intro rfl (And.intro rfl (And.intro rfl (And.intro rfl (And.intro rfl trivial)))))) trivial) (And.intro trivial (And.intro rfl (And.intro rfl trivial)))))
    intro n v75 h
    rw [s_l6Lots_L3.eq_2] at h
    refine HY.mk (fun _ => ?_)
    refine PS.ite h (fun h76 h => ?_) (fun h76 h => ?_)
    · refine OB.grd h (fun h77 h => ?_)
      refine EX.get h (fun x78 h79 h => ?_)
      refine PS.ite h (fun h80 h => ?_) (fun h80 h => ?_)
      · refine OB.grd h (fun h81 h => ?_)
        refine EX.get h (fun x82 h83 h => ?_)
        refine PS.ite h (fun h84 h => ?_) (fun h84 h => ?_)
        · refine OB.mk h77 ?_
          refine EX.pos h79 ?_
          refine OB.mk h81 ?_
          refine EX.pos h83 ?_
          refine CK.call false [] h (fun _ h => con_s_l5Split h) (And.intro rfl (And.intro rfl (And.intro rfl trivial))) trivial rfl (fun _ => rfl) (fun _ => Or.inl rfl) (fun y85 h86 h => ?_)
          refine RN.mk ?_
          refine RN.mk ?_
          refine OB.mk (by kernel_rfl) ?_
          refine CK.call false [] h (fun _ h => con_s_l5Qty h) (And.intro rfl trivial) trivial rfl (fun _ => rfl) (fun _ => Or.inr (Flat.mk rfl trivial)) (fun y87 h88 h => ?_)
          refine OB.mk h77 ?_
          refine EX.pos h79 ?_
          refine OB.mk h81 ?_
          refine EX.pos h83 ?_
          refine CK.call false [] h (fun _ h => con_s_l4Of h) (And.intro rfl (And.intro rfl (And.intro rfl trivial))) trivial rfl (fun _ => rfl) (fun _ => Or.inl rfl) (fun y89 h90 h => ?_)
          refine OB.mk (by kernel_rfl) ?_
          refine PS.ite h (fun h91 h => ?_) (fun h91 h => ?_)
          · exact lf1 h fun e0 => Exists.intro [] (And.intro rfl (And.intro trivial (be e0)))
          refine NX.next h ?_
          exact Exists.intro [.id 0] (And.intro rfl (And.intro (And.intro (And.intro rfl (And.intro rfl (And.intro rfl (And.intro rfl (And.intro rfl (And.intro rfl trivial)))))) trivial) (And.intro trivial (And.intro rfl (And.intro rfl trivial)))))
        refine NX.next h ?_
        exact Exists.intro [.id 0] (And.intro rfl (And.intro (And.intro (And.intro rfl (And.intro rfl (And.intro rfl (And.intro rfl (And.intro rfl (And.intro rfl trivial)))))) trivial) (And.intro trivial (And.intro rfl (And.intro rfl trivial)))))
      refine NX.next h ?_
      exact Exists.intro [.id 0] (And.intro rfl (And.intro (And.intro (And.intro rfl (And.intro rfl (And.intro rfl (And.intro rfl (And.intro rfl (And.intro rfl trivial)))))) trivial) (And.intro trivial (And.intro rfl (And.intro rfl trivial)))))
    refine NX.next h ?_
    exact Exists.intro [.id 0] (And.intro rfl (And.intro (And.intro (And.intro rfl (And.intro rfl (And.intro rfl (And.intro rfl (And.intro rfl (And.intro rfl trivial)))))) trivial) (And.intro trivial (And.intro rfl trivial))))
  exact lf1 h fun e0 => Exists.intro [] (And.intro rfl (And.intro trivial (be e0)))
theorem con_s_BooksOk {a0 : MBooks} {r0 : Bool} (h : s_BooksOk a0 = some r0) : Con Tryz.prog 64 [.agg [.sl 2 (List.map MAccount.av a0.Accounts), .sl 2 (List.map MInstr.av a0.Instrs), .sl 3 (List.map MBal.av a0.Bals), .sl 5 (List.map MLot.av a0.Lots), .sl 8 (List.map MTrade.av a0.Trades), .i .i64 a0.Lot]] [] (.p (r0 = true)) [] := by
  refine con_of_awpF hT mixed (fn := Tryz.f64) Tryz.func64 rfl rfl ?_
  unfold s_BooksOk at h
  refine CK.call false [] h (fun _ h => con_s_AccountsOk h) (And.intro rfl trivial) trivial rfl (fun _ => rfl) (fun _ => Or.inl rfl) (fun y1 h2 h => ?_)
  refine PS.ite h (fun h3 h => ?_) (fun h3 h => ?_)
  · exact lf1 h fun e0 => Exists.intro [] (And.intro rfl (And.intro trivial (be e0)))
  refine CK.call false [] h (fun _ h => con_s_InstrsOk h) (And.intro rfl trivial) trivial rfl (fun _ => rfl) (fun _ => Or.inl rfl) (fun y4 h5 h => ?_)
  refine PS.ite h (fun h6 h => ?_) (fun h6 h => ?_)
  · exact lf1 h fun e0 => Exists.intro [] (And.intro rfl (And.intro trivial (be e0)))
  refine CK.call false [] h (fun _ h => con_s_BalsOk h) (And.intro rfl trivial) trivial rfl (fun _ => rfl) (fun _ => Or.inl rfl) (fun y7 h8 h => ?_)
  refine PS.ite h (fun h9 h => ?_) (fun h9 h => ?_)
  · exact lf1 h fun e0 => Exists.intro [] (And.intro rfl (And.intro trivial (be e0)))
  refine CK.call false [] h (fun _ h => con_s_LotsOk h) (And.intro rfl trivial) trivial rfl (fun _ => rfl) (fun _ => Or.inl rfl) (fun y10 h11 h => ?_)
  refine PS.ite h (fun h12 h => ?_) (fun h12 h => ?_)
  · exact lf1 h fun e0 => Exists.intro [] (And.intro rfl (And.intro trivial (be e0)))
  refine CK.call false [] h (fun _ h => con_s_TradesOk h) (And.intro rfl trivial) trivial rfl (fun _ => rfl) (fun _ => Or.inl rfl) (fun y13 h14 h => ?_)
  refine PS.ite h (fun h15 h => ?_) (fun h15 h => ?_)
  · exact lf1 h fun e0 => Exists.intro [] (And.intro rfl (And.intro trivial (be e0)))
  refine CK.call false [] h (fun _ h => con_s_l1In h) (And.intro rfl (And.intro rfl (And.intro rfl trivial))) trivial rfl (fun _ => rfl) (fun _ => Or.inl rfl) (fun y16 h17 h => ?_)
  refine PS.ite h (fun h18 h => ?_) (fun h18 h => ?_)
  · exact lf1 h fun e0 => Exists.intro [] (And.intro rfl (And.intro trivial (be e0)))
  refine CK.call false [] h (fun _ h => con_s_l6Bals h) (And.intro (And.intro rfl (And.intro rfl (And.intro rfl (And.intro rfl (And.intro rfl (And.intro rfl trivial)))))) trivial) trivial rfl (fun _ => rfl) (fun _ => Or.inl rfl) (fun y19 h20 h => ?_)
  refine PS.ite h (fun h21 h => ?_) (fun h21 h => ?_)
  · exact lf1 h fun e0 => Exists.intro [] (And.intro rfl (And.intro trivial (be e0)))
  refine CK.call false [] h (fun _ h => con_s_l6Lots h) (And.intro (And.intro rfl (And.intro rfl (And.intro rfl (And.intro rfl (And.intro rfl (And.intro rfl trivial)))))) trivial) trivial rfl (fun _ => rfl) (fun _ => Or.inl rfl) (fun y22 h23 h => ?_)
  refine PS.ite h (fun h24 h => ?_) (fun h24 h => ?_)
  · exact lf1 h fun e0 => Exists.intro [] (And.intro rfl (And.intro trivial (be e0)))
  refine LP.fuel (g := s_BooksOk_L1 a0 _) (fun v41 => ⟨[(1, .ptr 0 0), (3, .i .i64 v41)], [some (.box [.sl 2 (List.map MAccount.av a0.Accounts), .sl 2 (List.map MInstr.av a0.Instrs), .sl 3 (List.map MBal.av a0.Bals), .sl 5 (List.map MLot.av a0.Lots), .sl 8 (List.map MTrade.av a0.Trades), .i .i64 a0.Lot])]⟩) h (fun _ h => by cases h) ?_ ?_
  · exact Exists.intro [.id 0] (And.intro rfl (And.intro (And.intro (And.intro rfl (And.intro rfl (And.intro rfl (And.intro rfl (And.intro rfl (And.intro rfl trivial)))))) trivial) (And.intro trivial (And.intro rfl trivial))))
  intro n v41 h
  rw [s_BooksOk_L1.eq_2] at h
  refine HY.mk (fun _ => ?_)
  refine PS.ite h (fun h42 h => ?_) (fun h42 h => ?_)
  · refine OB.grd h (fun h43 h => ?_)
    refine EX.get h (fun x44 h45 h => ?_)
    refine CK.call false [] h (fun _ h => con_s_AccountKind h) (And.intro rfl (And.intro rfl trivial)) trivial rfl (fun _ => rfl) (fun _ => Or.inl rfl) (fun y46 h47 h => ?_)
    refine PS.ite h (fun h48 h => ?_) (fun h48 h => ?_)
    · exact lf1 h fun e0 => Exists.intro [] (And.intro rfl (And.intro trivial (be e0)))
    refine CK.call false [] h (fun _ h => con_s_AccountKind h) (And.intro rfl (And.intro rfl trivial)) trivial rfl (fun _ => rfl) (fun _ => Or.inl rfl) (fun y49 h50 h => ?_)
    refine PS.ite h (fun h51 h => ?_) (fun h51 h => ?_)
    · exact lf1 h fun e0 => Exists.intro [] (And.intro rfl (And.intro trivial (be e0)))
    refine CK.call false [] h (fun _ h => con_s_InstrKind h) (And.intro rfl (And.intro rfl trivial)) trivial rfl (fun _ => rfl) (fun _ => Or.inl rfl) (fun y52 h53 h => ?_)
    refine PS.ite h (fun h54 h => ?_) (fun h54 h => ?_)
    · exact lf1 h fun e0 => Exists.intro [] (And.intro rfl (And.intro trivial (be e0)))
    refine CK.call false [] h (fun _ h => con_s_InstrKind h) (And.intro rfl (And.intro rfl trivial)) trivial rfl (fun _ => rfl) (fun _ => Or.inl rfl) (fun y55 h56 h => ?_)
    refine PS.ite h (fun h57 h => ?_) (fun h57 h => ?_)
    · exact lf1 h fun e0 => Exists.intro [] (And.intro rfl (And.intro trivial (be e0)))
    refine NX.next h ?_
    exact Exists.intro [.id 0] (And.intro rfl (And.intro (And.intro (And.intro rfl (And.intro rfl (And.intro rfl (And.intro rfl (And.intro rfl (And.intro rfl trivial)))))) trivial) (And.intro trivial (And.intro rfl trivial))))
  exact lf1 h fun e0 => Exists.intro [] (And.intro rfl (And.intro trivial (be e0)))

end Go.Proofs.YtbknlijpkabcnaaGreat.K
