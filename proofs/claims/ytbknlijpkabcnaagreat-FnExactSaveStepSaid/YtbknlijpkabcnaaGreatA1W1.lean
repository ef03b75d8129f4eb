/- The functions of the program compute the plain functions. No condition. -/
import Derived.Test.YtbknlijpkabcnaaGreatA1W0
namespace Go.Proofs.YtbknlijpkabcnaaGreat.K
set_option linter.all false
open Go

set_option maxRecDepth 20000
set_option maxHeartbeats 4000000

theorem con_s_BooksRead {a0 : (List UInt8)} {r0 : (List MAccount)} {r1 : (List MInstr)} {r2 : (List MBal)} {r3 : (List MLot)} {r4 : (List MTrade)} {r5 : Int} {r6 : Bool} (h : s_BooksRead a0 = some (r0, r1, r2, r3, r4, r5, r6)) : Con Tryz.prog 27 [.sl 1 (List.map u8 a0)] [] (.tup [.agg [.own 0, .own 1, .own 2, .own 3, .own 4, .i .i64 r5], .p (r6 = true)]) [some (.arr 2 (List.map MAccount.av r0)), some (.arr 2 (List.map MInstr.av r1)), some (.arr 3 (List.map MBal.av r2)), some (.arr 5 (List.map MLot.av r3)), some (.arr 8 (List.map MTrade.av r4))] := by
  refine con_of_awpF hT mixed (fn := Tryz.f27) Tryz.func27 rfl rfl ?_
  unfold s_BooksRead at h
  refine RN.to (List.map iv [(2 : Int), (2 : Int), (3 : Int), (5 : Int), (8 : Int)]) rfl ?_
  refine RN.to (List.map iv [(20 : Int), (8 : Int), (160 : Int), (120 : Int), (30 : Int)]) rfl ?_
  refine LP.fuel (g := s_BooksRead_L1 a0 _) (fun (v170, v171, v172, v173, v174, v175, v176) => ⟨[(0, .sl 1 (List.map u8 a0)), (2, .ptr 0 0), (4, .ptr 1 0), (5, .i .i64 v175), (6, .own 7), (7, .own 8), (8, .i .i64 v176), (167, .tup []), (168, .tup []), (169, .tup []), (170, .tup []), (173, .tup []), (174, .tup []), (175, .tup [])], [some (.box [.nil, .nil, .nil, .nil, .nil, .i .i64 ((0 : Int))]), some (.box [.own 2, .own 3, .own 4, .own 5, .own 6, .i .i64 ((0 : Int))]), some (.arr 2 (List.map MAccount.av v170)), some (.arr 2 (List.map MInstr.av v171)), some (.arr 3 (List.map MBal.av v172)), some (.arr 5 (List.map MLot.av v173)), some (.arr 8 (List.map MTrade.av v174)), some (.arr 1 (List.map iv [(2 : Int), (2 : Int), (3 : Int), (5 : Int), (8 : Int)])), some (.arr 1 (List.map iv [(20 : Int), (8 : Int), (160 : Int), (120 : Int), (30 : Int)]))]⟩) h (fun _ h => by cases h) ?_ ?_
  · exact Exists.intro [.id 0, .id 48, .nl, .nl, .nl, .nl, .nl, .id 96, .id 128] (And.intro rfl (And.intro (And.intro (And.intro trivial (And.intro trivial (And.intro trivial (And.intro trivial (And.intro trivial (And.intro rfl trivial)))))) (And.intro (And.intro trivial (And.intro trivial (And.intro trivial (And.intro trivial (And.intro trivial (And.intro rfl trivial)))))) (And.intro rfl (And.intro rfl (And.intro rfl (And.intro rfl (And.intro rfl (And.intro rfl (And.intro rfl trivial))))))))) (And.intro rfl (And.intro trivial (And.intro trivial (And.intro rfl (And.intro trivial (And.intro trivial (And.intro rfl (And.intro trivial (And.intro trivial (And.intro trivial (And.intro trivial (And.intro trivial (And.intro trivial (And.intro trivial trivial))))))))))))))))
  intro n v h
  obtain ⟨v170, v171, v172, v173, v174, v175, v176⟩ := v
  rw [s_BooksRead_L1.eq_2] at h
  refine PS.ite h (fun h177 h => ?_) (fun h177 h => ?_)
  · refine OB.grd h (fun h178 h => ?_)
    refine EX.get h (fun x179 h180 h => ?_)
    refine OB.grd h (fun h181 h => ?_)
    refine EX.get h (fun x182 h183 h => ?_)
    refine CK.call false [] h (fun _ h => con_s_l13Rows h) (And.intro rfl (And.intro rfl (And.intro rfl (And.intro rfl trivial)))) trivial rfl (fun _ => rfl) (fun _ => Or.inl rfl) (fun y184 h185 h => ?_)
    refine RN.mk ?_
    refine OB.mk (by kernel_rfl) ?_
    refine PS.ite h (fun h186 h => ?_) (fun h186 h => ?_)
    · exact lf7 h fun e0 e1 e2 e3 e4 e5 e6 => Exists.intro [.nl, .nl, .nl, .nl, .nl] (And.intro rfl (And.intro (And.intro (mpn e0) (And.intro (mpn e1) (And.intro (mpn e2) (And.intro (mpn e3) (And.intro (mpn e4) trivial))))) (And.intro (And.intro trivial (And.intro trivial (And.intro trivial (And.intro trivial (And.intro trivial (And.intro e5 trivial)))))) (And.intro (be e6) trivial))))
    refine LP.fuel (g := s_BooksRead_L2 v176 y184 _) (fun (v261, v262, v263, v264, v265, v266) => ⟨[(0, .sl 1 (List.map u8 a0)), (2, .ptr 0 0), (4, .ptr 1 0), (5, .i .i64 y184.2.1), (6, .own 7), (7, .own 8), (8, .i .i64 v176), (9, .own 9), (12, .i .i64 v266), (167, .tup []), (168, .tup []), (169, .tup []), (170, .tup []), (173, .tup []), (174, .tup []), (175, .tup [])], [some (.box [.nil, .nil, .nil, .nil, .nil, .i .i64 ((0 : Int))]), some (.box [.own 2, .own 3, .own 4, .own 5, .own 6, .i .i64 ((0 : Int))]), some (.arr 2 (List.map MAccount.av v261)), some (.arr 2 (List.map MInstr.av v262)), some (.arr 3 (List.map MBal.av v263)), some (.arr 5 (List.map MLot.av v264)), some (.arr 8 (List.map MTrade.av v265)), some (.arr 1 (List.map iv [(2 : Int), (2 : Int), (3 : Int), (5 : Int), (8 : Int)])), some (.arr 1 (List.map iv [(20 : Int), (8 : Int), (160 : Int), (120 : Int), (30 : Int)])), some (.arr 1 (List.map (sv 1 iv) y184.1))]⟩) h (fun _ h => by cases h) ?_ ?_
    · exact Exists.intro [.id 0, .id 1, .id 2, .id 3, .id 4, .id 5, .id 6, .id 7, .id 8, .id 201] (And.intro rfl (And.intro (And.intro (And.intro trivial (And.intro trivial (And.intro trivial (And.intro trivial (And.intro trivial (And.intro rfl trivial)))))) (And.intro (And.intro trivial (And.intro trivial (And.intro trivial (And.intro trivial (And.intro trivial (And.intro rfl trivial)))))) (And.intro rfl (And.intro rfl (And.intro rfl (And.intro rfl (And.intro rfl (And.intro rfl (And.intro rfl (And.intro rfl trivial)))))))))) (And.intro rfl (And.intro trivial (And.intro trivial (And.intro rfl (And.intro trivial (And.intro trivial (And.intro rfl (And.intro trivial (And.intro rfl (And.intro trivial (And.intro trivial (And.intro trivial (And.intro trivial (And.intro trivial (And.intro trivial (And.intro trivial trivial))))))))))))))))))
    intro n v h
    obtain ⟨v261, v262, v263, v264, v265, v266⟩ := v
    rw [s_BooksRead_L2.eq_2] at h
    refine HY.mk (fun _ => ?_)
    refine PS.ite h (fun h267 h => ?_) (fun h267 h => ?_)
    · refine OB.grd h (fun h268 h => ?_)
      refine EX.get h (fun x269 h270 h => ?_)
      refine PS.ite h (fun h271 h => ?_) (fun h271 h => ?_)
      · refine OB.grd h (fun h272 h => ?_)
        refine EX.get h (fun x273 h274 h => ?_)
        refine OB.grd h (fun h275 h => ?_)
        refine EX.get h (fun x276 h277 h => ?_)
        refine RN.to (List.map MAccount.av [(MAccount.mk x273 x276)]) rfl ?_
        refine OB.app (enc := MAccount.av) (l := [(MAccount.mk x273 x276)]) rfl (fun _ => rfl) h (fun h278 h => ?_)
        refine RN.to (List.map MAccount.av (v261 ++ [(MAccount.mk x273 x276)])) List.map_append.symm ?_
        refine OB.mk (by kernel_rfl) ?_
        refine NX.next h ?_
        exact Exists.intro [.id 0, .id 1, .id 362, .id 3, .id 4, .id 5, .id 6, .id 7, .id 8, .id 9] (And.intro rfl (And.intro (And.intro (And.intro trivial (And.intro trivial (And.intro trivial (And.intro trivial (And.intro trivial (And.intro rfl trivial)))))) (And.intro (And.intro trivial (And.intro trivial (And.intro trivial (And.intro trivial (And.intro trivial (And.intro rfl trivial)))))) (And.intro rfl (And.intro rfl (And.intro rfl (And.intro rfl (And.intro rfl (And.intro rfl (And.intro rfl (And.intro rfl trivial)))))))))) (And.intro rfl (And.intro trivial (And.intro trivial (And.intro rfl (And.intro trivial (And.intro trivial (And.intro rfl (And.intro trivial (And.intro rfl (And.intro trivial (And.intro trivial (And.intro trivial (And.intro trivial (And.intro trivial (And.intro trivial (And.intro trivial trivial))))))))))))))))))
      refine PS.ite h (fun h279 h => ?_) (fun h279 h => ?_)
      · refine OB.grd h (fun h280 h => ?_)
        refine EX.get h (fun x281 h282 h => ?_)
        refine OB.grd h (fun h283 h => ?_)
        refine EX.get h (fun x284 h285 h => ?_)
        refine RN.to (List.map MInstr.av [(MInstr.mk x281 x284)]) rfl ?_
        refine OB.app (enc := MInstr.av) (l := [(MInstr.mk x281 x284)]) rfl (fun _ => rfl) h (fun h286 h => ?_)
        refine RN.to (List.map MInstr.av (v262 ++ [(MInstr.mk x281 x284)])) List.map_append.symm ?_
        refine OB.mk (by kernel_rfl) ?_
        refine NX.next h ?_
        exact Exists.intro [.id 0, .id 1, .id 2, .id 394, .id 4, .id 5, .id 6, .id 7, .id 8, .id 9] (And.intro rfl (And.intro (And.intro (And.intro trivial (And.intro trivial (And.intro trivial (And.intro trivial (And.intro trivial (And.intro rfl trivial)))))) (And.intro (And.intro trivial (And.intro trivial (And.intro trivial (And.intro trivial (And.intro trivial (And.intro rfl trivial)))))) (And.intro rfl (And.intro rfl (And.intro rfl (And.intro rfl (And.intro rfl (And.intro rfl (And.intro rfl (And.intro rfl trivial)))))))))) (And.intro rfl (And.intro trivial (And.intro trivial (And.intro rfl (And.intro trivial (And.intro trivial (And.intro rfl (And.intro trivial (And.intro rfl (And.intro trivial (And.intro trivial (And.intro trivial (And.intro trivial (And.intro trivial (And.intro trivial (And.intro trivial trivial))))))))))))))))))
      refine PS.ite h (fun h287 h => ?_) (fun h287 h => ?_)
      · refine OB.grd h (fun h288 h => ?_)
        refine EX.get h (fun x289 h290 h => ?_)
        refine OB.grd h (fun h291 h => ?_)
        refine EX.get h (fun x292 h293 h => ?_)
        refine OB.grd h (fun h294 h => ?_)
        refine EX.get h (fun x295 h296 h => ?_)
        refine RN.to (List.map MBal.av [(MBal.mk x289 x292 (w64 (x295 - (1000000000000000 : Int))))]) rfl ?_
        refine OB.app (enc := MBal.av) (l := [(MBal.mk x289 x292 (w64 (x295 - (1000000000000000 : Int))))]) rfl (fun _ => rfl) h (fun h297 h => ?_)
        refine RN.to (List.map MBal.av (v263 ++ [(MBal.mk x289 x292 (w64 (x295 - (1000000000000000 : Int))))])) List.map_append.symm ?_
        refine OB.mk (by kernel_rfl) ?_
        refine NX.next h ?_
        exact Exists.intro [.id 0, .id 1, .id 2, .id 3, .id 490, .id 5, .id 6, .id 7, .id 8, .id 9] (And.intro rfl (And.intro (And.intro (And.intro trivial (And.intro trivial (And.intro trivial (And.intro trivial (And.intro trivial (And.intro rfl trivial)))))) (And.intro (And.intro trivial (And.intro trivial (And.intro trivial (And.intro trivial (And.intro trivial (And.intro rfl trivial)))))) (And.intro rfl (And.intro rfl (And.intro rfl (And.intro rfl (And.intro rfl (And.intro rfl (And.intro rfl (And.intro rfl trivial)))))))))) (And.intro rfl (And.intro trivial (And.intro trivial (And.intro rfl (And.intro trivial (And.intro trivial (And.intro rfl (And.intro trivial (And.intro rfl (And.intro trivial (And.intro trivial (And.intro trivial (And.intro trivial (And.intro trivial (And.intro trivial (And.intro trivial trivial))))))))))))))))))
      refine PS.ite h (fun h298 h => ?_) (fun h298 h => ?_)
      · refine OB.grd h (fun h299 h => ?_)
        refine EX.get h (fun x300 h301 h => ?_)
        refine OB.grd h (fun h302 h => ?_)
        refine EX.get h (fun x303 h304 h => ?_)
        refine OB.grd h (fun h305 h => ?_)
        refine EX.get h (fun x306 h307 h => ?_)
        refine OB.grd h (fun h308 h => ?_)
        refine EX.get h (fun x309 h310 h => ?_)
        refine OB.grd h (fun h311 h => ?_)
        refine EX.get h (fun x312 h313 h => ?_)
        refine RN.to (List.map MLot.av [(MLot.mk x300 x303 x306 x309 x312)]) rfl ?_
        refine OB.app (enc := MLot.av) (l := [(MLot.mk x300 x303 x306 x309 x312)]) rfl (fun _ => rfl) h (fun h314 h => ?_)
        refine RN.to (List.map MLot.av (v264 ++ [(MLot.mk x300 x303 x306 x309 x312)])) List.map_append.symm ?_
        refine OB.mk (by kernel_rfl) ?_
        refine NX.next h ?_
        exact Exists.intro [.id 0, .id 1, .id 2, .id 3, .id 4, .id 602, .id 6, .id 7, .id 8, .id 9] (And.intro rfl (And.intro (And.intro (And.intro trivial (And.intro trivial (And.intro trivial (And.intro trivial (And.intro trivial (And.intro rfl trivial)))))) (And.intro (And.intro trivial (And.intro trivial (And.intro trivial (And.intro trivial (And.intro trivial (And.intro rfl trivial)))))) (And.intro rfl (And.intro rfl (And.intro rfl (And.intro rfl (And.intro rfl (And.intro rfl (And.intro rfl (And.intro rfl trivial)))))))))) (And.intro rfl (And.intro trivial (And.intro trivial (And.intro rfl (And.intro trivial (And.intro trivial (And.intro rfl (And.intro trivial (And.intro rfl (And.intro trivial (And.intro trivial (And.intro trivial (And.intro trivial (And.intro trivial (And.intro trivial (And.intro trivial trivial))))))))))))))))))
      refine PS.ite h (fun h315 h => ?_) (fun h315 h => ?_)
      · refine OB.grd h (fun h316 h => ?_)
        refine EX.get h (fun x317 h318 h => ?_)
        refine OB.grd h (fun h319 h => ?_)
        refine EX.get h (fun x320 h321 h => ?_)
        refine OB.grd h (fun h322 h => ?_)
        refine EX.get h (fun x323 h324 h => ?_)
        refine OB.grd h (fun h325 h => ?_)
        refine EX.get h (fun x326 h327 h => ?_)
        refine OB.grd h (fun h328 h => ?_)
        refine EX.get h (fun x329 h330 h => ?_)
        refine OB.grd h (fun h331 h => ?_)
        refine EX.get h (fun x332 h333 h => ?_)
        refine OB.grd h (fun h334 h => ?_)
        refine EX.get h (fun x335 h336 h => ?_)
        refine OB.grd h (fun h337 h => ?_)
        refine EX.get h (fun x338 h339 h => ?_)
        refine RN.to (List.map MTrade.av [(MTrade.mk x317 x320 x323 x326 x329 x332 x335 x338)]) rfl ?_
        refine OB.app (enc := MTrade.av) (l := [(MTrade.mk x317 x320 x323 x326 x329 x332 x335 x338)]) rfl (fun _ => rfl) h (fun h340 h => ?_)
        refine RN.to (List.map MTrade.av (v265 ++ [(MTrade.mk x317 x320 x323 x326 x329 x332 x335 x338)])) List.map_append.symm ?_
        refine OB.mk (by kernel_rfl) ?_
        refine NX.next h ?_
        exact Exists.intro [.id 0, .id 1, .id 2, .id 3, .id 4, .id 5, .id 778, .id 7, .id 8, .id 9] (And.intro rfl (And.intro (And.intro (And.intro trivial (And.intro trivial (And.intro trivial (And.intro trivial (And.intro trivial (And.intro rfl trivial)))))) (And.intro (And.intro trivial (And.intro trivial (And.intro trivial (And.intro trivial (And.intro trivial (And.intro rfl trivial)))))) (And.intro rfl (And.intro rfl (And.intro rfl (And.intro rfl (And.intro rfl (And.intro rfl (And.intro rfl (And.intro rfl trivial)))))))))) (And.intro rfl (And.intro trivial (And.intro trivial (And.intro rfl (And.intro trivial (And.intro trivial (And.intro rfl (And.intro trivial (And.intro rfl (And.intro trivial (And.intro trivial (And.intro trivial (And.intro trivial (And.intro trivial (And.intro trivial (And.intro trivial trivial))))))))))))))))))
      refine NX.next h ?_
      exact Exists.intro [.id 0, .id 1, .id 2, .id 3, .id 4, .id 5, .id 6, .id 7, .id 8, .id 9] (And.intro rfl (And.intro (And.intro (And.intro trivial (And.intro trivial (And.intro trivial (And.intro trivial (And.intro trivial (And.intro rfl trivial)))))) (And.intro (And.intro trivial (And.intro trivial (And.intro trivial (And.intro trivial (And.intro trivial (And.intro rfl trivial)))))) (And.intro rfl (And.intro rfl (And.intro rfl (And.intro rfl (And.intro rfl (And.intro rfl (And.intro rfl (And.intro rfl trivial)))))))))) (And.intro rfl (And.intro trivial (And.intro trivial (And.intro rfl (And.intro trivial (And.intro trivial (And.intro rfl (And.intro trivial (And.intro rfl (And.intro trivial (And.intro trivial (And.intro trivial (And.intro trivial (And.intro trivial (And.intro trivial (And.intro trivial trivial))))))))))))))))))
    refine NX.next h ?_
    exact Exists.intro [.id 0, .id 1, .id 2, .id 3, .id 4, .id 5, .id 6, .id 7, .id 8] (And.intro rfl (And.intro (And.intro (And.intro trivial (And.intro trivial (And.intro trivial (And.intro trivial (And.intro trivial (And.intro rfl trivial)))))) (And.intro (And.intro trivial (And.intro trivial (And.intro trivial (And.intro trivial (And.intro trivial (And.intro rfl trivial)))))) (And.intro rfl (And.intro rfl (And.intro rfl (And.intro rfl (And.intro rfl (And.intro rfl (And.intro rfl trivial))))))))) (And.intro rfl (And.intro trivial (And.intro trivial (And.intro rfl (And.intro trivial (And.intro trivial (And.intro rfl (And.intro trivial (And.intro trivial (And.intro trivial (And.intro trivial (And.intro trivial (And.intro trivial (And.intro trivial trivial))))))))))))))))
  refine CK.call false [] h (fun _ h => con_s_GetNum h) (And.intro rfl (And.intro rfl trivial)) trivial rfl (fun _ => rfl) (fun _ => Or.inl rfl) (fun y352 h353 h => ?_)
  refine PS.ite h (fun h354 h => ?_) (fun h354 h => ?_)
  · exact lf7 h fun e0 e1 e2 e3 e4 e5 e6 => Exists.intro [.nl, .nl, .nl, .nl, .nl] (And.intro rfl (And.intro (And.intro (mpn e0) (And.intro (mpn e1) (And.intro (mpn e2) (And.intro (mpn e3) (And.intro (mpn e4) trivial))))) (And.intro (And.intro trivial (And.intro trivial (And.intro trivial (And.intro trivial (And.intro trivial (And.intro e5 trivial)))))) (And.intro (be e6) trivial))))
  refine HY.mk (fun _ => ?_)
  refine PS.ite h (fun h355 h => ?_) (fun h355 h => ?_)
  · exact lf7 h fun e0 e1 e2 e3 e4 e5 e6 => Exists.intro [.nl, .nl, .nl, .nl, .nl] (And.intro rfl (And.intro (And.intro (mpn e0) (And.intro (mpn e1) (And.intro (mpn e2) (And.intro (mpn e3) (And.intro (mpn e4) trivial))))) (And.intro (And.intro trivial (And.intro trivial (And.intro trivial (And.intro trivial (And.intro trivial (And.intro e5 trivial)))))) (And.intro (be e6) trivial))))
  refine CK.call false [] h (fun _ h => con_s_BooksOk h) (And.intro (And.intro rfl (And.intro rfl (And.intro rfl (And.intro rfl (And.intro rfl (And.intro rfl trivial)))))) trivial) trivial rfl (fun _ => rfl) (fun _ => Or.inr (Flat.mk rfl trivial)) (fun y356 h357 h => ?_)
  refine PS.ite h (fun h358 h => ?_) (fun h358 h => ?_)
  · exact lf7 h fun e0 e1 e2 e3 e4 e5 e6 => Exists.intro [.nl, .nl, .nl, .nl, .nl] (And.intro rfl (And.intro (And.intro (mpn e0) (And.intro (mpn e1) (And.intro (mpn e2) (And.intro (mpn e3) (And.intro (mpn e4) trivial))))) (And.intro (And.intro trivial (And.intro trivial (And.intro trivial (And.intro trivial (And.intro trivial (And.intro e5 trivial)))))) (And.intro (be e6) trivial))))
  exact lf7 h fun e0 e1 e2 e3 e4 e5 e6 => Exists.intro [.id 2, .id 3, .id 4, .id 5, .id 6] (And.intro rfl (And.intro (And.intro (mpe e0) (And.intro (mpe e1) (And.intro (mpe e2) (And.intro (mpe e3) (And.intro (mpe e4) trivial))))) (And.intro (And.intro trivial (And.intro trivial (And.intro trivial (And.intro trivial (And.intro trivial (And.intro e5 trivial)))))) (And.intro (be e6) trivial))))
theorem con_s_SaveLoad {a0 : MDisk} {r0 : Int} {r1 : (List MAccount)} {r2 : (List MInstr)} {r3 : (List MBal)} {r4 : (List MLot)} {r5 : (List MTrade)} {r6 : Int} {r7 : Bool} (h : s_SaveLoad a0 = some (r0, r1, r2, r3, r4, r5, r6, r7)) : Con Tryz.prog 7 [.agg [.i .i64 a0.Room, .sl 3 (List.map MFile.av a0.Files)]] [] (.tup [.agg [.i .i64 r0, .own 0, .own 1, .own 2, .own 3, .own 4, .i .i64 r6], .p (r7 = true)]) [some (.arr 2 (List.map MAccount.av r1)), some (.arr 2 (List.map MInstr.av r2)), some (.arr 3 (List.map MBal.av r3)), some (.arr 5 (List.map MLot.av r4)), some (.arr 8 (List.map MTrade.av r5))] := by
  refine con_of_awpF hT mixed (fn := Tryz.f7) Tryz.func7 rfl rfl ?_
  unfold s_SaveLoad at h
  refine CK.call false [] h (fun _ h => con_s_DiskRead h) (And.intro (And.intro rfl (And.intro rfl trivial)) (And.intro rfl trivial)) trivial rfl (fun _ => rfl) (fun _ => Or.inl rfl) (fun y1 h2 h => ?_)
  refine PS.ite h (fun h3 h => ?_) (fun h3 h => ?_)
  · exact lf8 h fun e0 e1 e2 e3 e4 e5 e6 e7 => Exists.intro [.nl, .nl, .nl, .nl, .nl] (And.intro rfl (And.intro (And.intro (mpn e1) (And.intro (mpn e2) (And.intro (mpn e3) (And.intro (mpn e4) (And.intro (mpn e5) trivial))))) (And.intro (And.intro e0 (And.intro trivial (And.intro trivial (And.intro trivial (And.intro trivial (And.intro trivial (And.intro e6 trivial))))))) (And.intro (be e7) trivial))))
  refine CK.call false [] h (fun _ h => con_s_Unseal h) (And.intro rfl (And.intro rfl trivial)) trivial rfl (fun _ => rfl) (fun _ => Or.inl rfl) (fun y4 h5 h => ?_)
  refine RN.mk ?_
  refine PS.ite h (fun h6 h => ?_) (fun h6 h => ?_)
  · exact lf8 h fun e0 e1 e2 e3 e4 e5 e6 e7 => Exists.intro [.nl, .nl, .nl, .nl, .nl] (And.intro rfl (And.intro (And.intro (mpn e1) (And.intro (mpn e2) (And.intro (mpn e3) (And.intro (mpn e4) (And.intro (mpn e5) trivial))))) (And.intro (And.intro e0 (And.intro trivial (And.intro trivial (And.intro trivial (And.intro trivial (And.intro trivial (And.intro e6 trivial))))))) (And.intro (be e7) trivial))))
  refine HY.mk (fun _ => ?_)
  refine PS.ite h (fun h7 h => ?_) (fun h7 h => ?_)
  · exact lf8 h fun e0 e1 e2 e3 e4 e5 e6 e7 => Exists.intro [.nl, .nl, .nl, .nl, .nl] (And.intro rfl (And.intro (And.intro (mpn e1) (And.intro (mpn e2) (And.intro (mpn e3) (And.intro (mpn e4) (And.intro (mpn e5) trivial))))) (And.intro (And.intro e0 (And.intro trivial (And.intro trivial (And.intro trivial (And.intro trivial (And.intro trivial (And.intro e6 trivial))))))) (And.intro (be e7) trivial))))
  refine CK.call false [] h (fun _ h => con_s_GetNum h) (And.intro rfl (And.intro rfl trivial)) trivial rfl (fun _ => rfl) (fun _ => Or.inr (Flat.mk rfl trivial)) (fun y8 h9 h => ?_)
  refine PS.ite h (fun h10 h => ?_) (fun h10 h => ?_)
  · exact lf8 h fun e0 e1 e2 e3 e4 e5 e6 e7 => Exists.intro [.nl, .nl, .nl, .nl, .nl] (And.intro rfl (And.intro (And.intro (mpn e1) (And.intro (mpn e2) (And.intro (mpn e3) (And.intro (mpn e4) (And.intro (mpn e5) trivial))))) (And.intro (And.intro e0 (And.intro trivial (And.intro trivial (And.intro trivial (And.intro trivial (And.intro trivial (And.intro e6 trivial))))))) (And.intro (be e7) trivial))))
  refine CK.call false [] h (fun _ h => con_s_l15Seg h) (And.intro rfl trivial) trivial rfl (fun _ => rfl) (fun _ => Or.inl rfl) (fun y11 h12 h => ?_)
  refine PS.ite h (fun h13 h => ?_) (fun h13 h => ?_)
  · exact lf8 h fun e0 e1 e2 e3 e4 e5 e6 e7 => Exists.intro [.nl, .nl, .nl, .nl, .nl] (And.intro rfl (And.intro (And.intro (mpn e1) (And.intro (mpn e2) (And.intro (mpn e3) (And.intro (mpn e4) (And.intro (mpn e5) trivial))))) (And.intro (And.intro e0 (And.intro trivial (And.intro trivial (And.intro trivial (And.intro trivial (And.intro trivial (And.intro e6 trivial))))))) (And.intro (be e7) trivial))))
  refine OB.grd h (fun h14 h => ?_)
  refine CK.call false [] h (fun _ h => con_s_BooksRead h) (And.intro dtm trivial) trivial rfl (fun _ => rfl) (fun _ => Or.inr (Flat.mk rfl (And.intro (FlatO.map fun _ => rfl) (And.intro (FlatO.map fun _ => rfl) (And.intro (FlatO.map fun _ => rfl) (And.intro (FlatO.map fun _ => rfl) (And.intro (FlatO.map fun _ => rfl) trivial))))))) (fun y15 h16 h => ?_)
  refine RN.mk ?_
  refine RN.mk ?_
  refine RN.mk ?_
  refine RN.mk ?_
  refine RN.mk ?_
  refine PS.ite h (fun h17 h => ?_) (fun h17 h => ?_)
  · exact lf8 h fun e0 e1 e2 e3 e4 e5 e6 e7 => Exists.intro [.nl, .nl, .nl, .nl, .nl] (And.intro rfl (And.intro (And.intro (mpn e1) (And.intro (mpn e2) (And.intro (mpn e3) (And.intro (mpn e4) (And.intro (mpn e5) trivial))))) (And.intro (And.intro e0 (And.intro trivial (And.intro trivial (And.intro trivial (And.intro trivial (And.intro trivial (And.intro e6 trivial))))))) (And.intro (be e7) trivial))))
  exact lf8 h fun e0 e1 e2 e3 e4 e5 e6 e7 => Exists.intro [.id 784, .id 785, .id 786, .id 787, .id 788] (And.intro rfl (And.intro (And.intro (mpe e1) (And.intro (mpe e2) (And.intro (mpe e3) (And.intro (mpe e4) (And.intro (mpe e5) trivial))))) (And.intro (And.intro e0 (And.intro trivial (And.intro trivial (And.intro trivial (And.intro trivial (And.intro trivial (And.intro e6 trivial))))))) (And.intro (be e7) trivial))))
theorem con_i_fileAt_c1 {a0 : MFile} {a1_0 : Int} {r0 : Bool} (h : i_fileAt_c1 a0 a1_0 = some r0) : Con Tryz.prog 133 [.agg [.i .i64 a0.Name, .s a0.Safe, .s a0.Late], .rp [.i .i64 a1_0]] [] (.p (r0 = true)) [] := by
  refine con_of_awpF hT mixed (fn := Tryz.f133) Tryz.func133 rfl rfl ?_
  unfold i_fileAt_c1 at h
  exact lf1 h fun e0 => Exists.intro [] (And.intro rfl (And.intro trivial (pqe e0)))
theorem con_g_IndexFunc_File {a0 : (List MFile)} {a1_0_0 : Int} {r0 : Int} (h : g_IndexFunc_File a0 a1_0_0 = some r0) : Con Tryz.prog 132 [.sl 3 (List.map MFile.av a0), .fn (.func 133) [] [.rp [.i .i64 a1_0_0]]] [] (.i .i64 r0) [] := by
  refine con_of_awpF hT mixed (fn := Tryz.f132) Tryz.func132 rfl rfl ?_
  unfold g_IndexFunc_File at h
  refine HY.mk (fun _ => ?_)
  refine LP.fuel (g := g_IndexFunc_File_L1 a0 a1_0_0 _) (fun v8 => ⟨[(0, .sl 3 (List.map MFile.av a0)), (1, .fn (.func 133) [] [.rp [.i .i64 a1_0_0]]), (7, .i .i64 ((ln (List.map MFile.av a0)))), (8, .i .i64 v8)], []⟩) h (fun _ h => by cases h) ?_ ?_
  · exact Exists.intro [] (And.intro rfl (And.intro trivial (And.intro rfl (And.intro (And.intro rfl (And.intro rfl rfl)) (And.intro rfl (And.intro rfl trivial))))))
  intro n v8 h
  rw [g_IndexFunc_File_L1.eq_2] at h
  refine PS.ite h (fun h9 h => ?_) (fun h9 h => ?_)
  · refine OB.grd h (fun h10 h => ?_)
    refine EX.get h (fun x11 h12 h => ?_)
    refine CK.call false [] h (fun _ h => con_i_fileAt_c1 h) (And.intro (And.intro rfl (And.intro rfl (And.intro rfl trivial))) (And.intro (And.intro rfl trivial) trivial)) trivial rfl (fun _ => rfl) (fun _ => Or.inl rfl) (fun y13 h14 h => ?_)
    refine PS.ite h (fun h15 h => ?_) (fun h15 h => ?_)
    · exact lf1 h fun e0 => Exists.intro [] (And.intro rfl (And.intro trivial e0))
    refine NX.next h ?_
    exact Exists.intro [] (And.intro rfl (And.intro trivial (And.intro rfl (And.intro (And.intro rfl (And.intro rfl rfl)) (And.intro rfl (And.intro rfl trivial))))))
  exact lf1 h fun e0 => Exists.intro [] (And.intro rfl (And.intro trivial e0))
theorem con_i_fileAt {a0 : MDisk} {a1 : Int} {r0 : Int} (h : i_fileAt a0 a1 = some r0) : Con Tryz.prog 66 [.agg [.i .i64 a0.Room, .sl 3 (List.map MFile.av a0.Files)], .i .i64 a1] [] (.i .i64 r0) [] := by
  refine con_of_awpF hT mixed (fn := Tryz.f66) Tryz.func66 rfl rfl ?_
  unfold i_fileAt at h
  refine CK.call false [] h (fun _ h => con_g_IndexFunc_File h) (And.intro rfl (And.intro (And.intro rfl (And.intro trivial (And.intro (And.intro rfl trivial) trivial))) trivial)) trivial rfl (fun _ => rfl) (fun _ => Or.inr (Flat.mk rfl trivial)) (fun y1 h2 h => ?_)
  exact lf1 h fun e0 => Exists.intro [] (And.intro rfl (And.intro trivial e0))
theorem con_i_in {a0 : Int} {a1 : Int} {a2 : Int} {r0 : Bool} (h : i_in a0 a1 a2 = some r0) : Con Tryz.prog 53 [.i .i64 a0, .i .i64 a1, .i .i64 a2] [] (.p (r0 = true)) [] := by
  refine con_of_awpF hT mixed (fn := Tryz.f53) Tryz.func53 rfl rfl ?_
  unfold i_in at h
  refine PS.ite h (fun h1 h => ?_) (fun h1 h => ?_)
  · exact lf1 h fun e0 => Exists.intro [] (And.intro rfl (And.intro trivial (pqe e0)))
  exact lf1 h fun e0 => Exists.intro [] (And.intro rfl (And.intro trivial (be e0)))
theorem con_i_isFile {a0 : Int} {r0 : Bool} (h : i_isFile a0 = some r0) : Con Tryz.prog 114 [.i .i64 a0] [] (.p (r0 = true)) [] := by
  refine con_of_awpF hT mixed (fn := Tryz.f114) Tryz.func114 rfl rfl ?_
  unfold i_isFile at h
  refine CK.call false [] h (fun _ h => con_i_in h) (And.intro rfl (And.intro rfl (And.intro rfl trivial))) trivial rfl (fun _ => rfl) (fun _ => Or.inl rfl) (fun y1 h2 h => ?_)
  exact lf1 h fun e0 => Exists.intro [] (And.intro rfl (And.intro trivial (be e0)))
theorem con_i_usedRoom {a0 : MDisk} {r0 : Int} (h : i_usedRoom a0 = some r0) : Con Tryz.prog 115 [.agg [.i .i64 a0.Room, .sl 3 (List.map MFile.av a0.Files)]] [] (.i .i64 r0) [] := by
  refine con_of_awpF hT mixed (fn := Tryz.f115) Tryz.func115 rfl rfl ?_
  unfold i_usedRoom at h
  refine HY.mk (fun _ => ?_)
  refine LP.fuel (g := i_usedRoom_L1 a0 _) (fun (v5, v6) => ⟨[(3, .i .i64 v5), (7, .sl 3 (List.map MFile.av a0.Files)), (8, .i .i64 ((ln (List.map MFile.av a0.Files)))), (9, .i .i64 v6)], []⟩) h (fun _ h => by cases h) ?_ ?_
  · exact Exists.intro [] (And.intro rfl (And.intro trivial (And.intro rfl (And.intro rfl (And.intro rfl (And.intro rfl trivial))))))
  intro n v h
  obtain ⟨v5, v6⟩ := v
  rw [i_usedRoom_L1.eq_2] at h
  refine PS.ite h (fun h7 h => ?_) (fun h7 h => ?_)
  · refine OB.grd h (fun h8 h => ?_)
    refine EX.get h (fun x9 h10 h => ?_)
    refine HY.mk (fun _ => ?_)
    refine HY.mk (fun _ => ?_)
    refine NX.next h ?_
    exact Exists.intro [] (And.intro rfl (And.intro trivial (And.intro rfl (And.intro rfl (And.intro rfl (And.intro rfl trivial))))))
  exact lf1 h fun e0 => Exists.intro [] (And.intro rfl (And.intro trivial e0))
theorem con_i_DiskOk {a0 : MDisk} {r0 : Bool} (h : i_DiskOk a0 = some r0) : Con Tryz.prog 52 [.agg [.i .i64 a0.Room, .sl 3 (List.map MFile.av a0.Files)]] [] (.p (r0 = true)) [] := by
  refine con_of_awpF hT mixed (fn := Tryz.f52) Tryz.func52 rfl rfl ?_
  unfold i_DiskOk at h
  refine HY.mk (fun _ => ?_)
  refine LP.fuel (g := i_DiskOk_L1 a0 _) (fun v13 => ⟨[(1, .ptr 0 0), (6, .sl 3 (List.map MFile.av a0.Files)), (7, .i .i64 ((ln (List.map MFile.av a0.Files)))), (8, .i .i64 v13), (38, .tup []), (39, .tup []), (40, .tup []), (41, .tup []), (42, .tup [])], [some (.box [.i .i64 a0.Room, .sl 3 (List.map MFile.av a0.Files)])]⟩) h (fun _ h => by cases h) ?_ ?_
  · exact Exists.intro [.id 0] (And.intro rfl (And.intro (And.intro (And.intro rfl (And.intro rfl trivial)) trivial) (And.intro trivial (And.intro rfl (And.intro rfl (And.intro rfl (And.intro trivial (And.intro trivial (And.intro trivial (And.intro trivial (And.intro trivial trivial)))))))))))
  intro n v13 h
  rw [i_DiskOk_L1.eq_2] at h
  refine PS.ite h (fun h14 h => ?_) (fun h14 h => ?_)
  · refine OB.grd h (fun h15 h => ?_)
    refine EX.get h (fun x16 h17 h => ?_)
    refine CK.call false [] h (fun _ h => con_i_isFile h) (And.intro rfl trivial) trivial rfl (fun _ => rfl) (fun _ => Or.inl rfl) (fun y18 h19 h => ?_)
    refine PS.ite h (fun h20 h => ?_) (fun h20 h => ?_)
    · refine PS.pos h20 ?_
      iterate 3 refine PS.pos h20 ?_
      refine OB.mk (by kernel_rfl) ?_
      exact lf1 h fun e0 => Exists.intro [] (And.intro rfl (And.intro trivial (be e0)))
    refine PS.neg h20 ?_
    refine PS.neg h20 ?_
    refine PS.ite h (fun h21 h => ?_) (fun h21 h => ?_)
    · refine PS.pos h21 ?_
      iterate 3 refine PS.pos h21 ?_
      refine OB.grd h (fun h22 h => ?_)
      refine EX.get h (fun x23 h24 h => ?_)
      iterate 5 refine PS.pos h21 ?_
      refine PS.neg h20 ?_
      refine PS.pos h21 ?_
      refine PS.neg h20 ?_
      refine OB.mk (by kernel_rfl) ?_
      refine PS.ite h (fun h25 h => ?_) (fun h25 h => ?_)
      · exact lf1 h fun e0 => Exists.intro [] (And.intro rfl (And.intro trivial (be e0)))
      refine NX.next h ?_
      exact Exists.intro [.id 0] (And.intro rfl (And.intro (And.intro (And.intro rfl (And.intro rfl trivial)) trivial) (And.intro trivial (And.intro rfl (And.intro rfl (And.intro rfl (And.intro trivial (And.intro trivial (And.intro trivial (And.intro trivial (And.intro trivial trivial)))))))))))
    iterate 9 refine PS.neg h21 ?_
    refine PS.neg h20 ?_
    refine PS.neg h21 ?_
    refine PS.neg h20 ?_
    refine OB.mk (by kernel_rfl) ?_
    refine NX.next h ?_
    exact Exists.intro [.id 0] (And.intro rfl (And.intro (And.intro (And.intro rfl (And.intro rfl trivial)) trivial) (And.intro trivial (And.intro rfl (And.intro rfl (And.intro rfl (And.intro trivial (And.intro trivial (And.intro trivial (And.intro trivial (And.intro trivial trivial)))))))))))
  refine CK.call false [] h (fun _ h => con_i_in h) (And.intro rfl (And.intro rfl (And.intro rfl trivial))) trivial rfl (fun _ => rfl) (fun _ => Or.inl rfl) (fun y26 h27 h => ?_)
  refine PS.ite h (fun h28 h => ?_) (fun h28 h => ?_)
  · refine PS.pos h28 ?_
    refine CK.call false [] h (fun _ h => con_i_usedRoom h) (And.intro (And.intro rfl (And.intro rfl trivial)) trivial) trivial rfl (fun _ => rfl) (fun _ => Or.inl rfl) (fun y29 h30 h => ?_)
    iterate 4 refine PS.pos h28 ?_
    refine OB.mk (by kernel_rfl) ?_
    exact lf1 h fun e0 => Exists.intro [] (And.intro rfl (And.intro trivial (pqe e0)))
  iterate 5 refine PS.neg h28 ?_
  refine OB.mk (by kernel_rfl) ?_
  exact lf1 h fun e0 => Exists.intro [] (And.intro rfl (And.intro trivial (be e0)))
theorem con_i_DiskRead {a0 : MDisk} {a1 : Int} {r0 : (List UInt8)} {r1 : Bool} (h : i_DiskRead a0 a1 = some (r0, r1)) : Con Tryz.prog 29 [.agg [.i .i64 a0.Room, .sl 3 (List.map MFile.av a0.Files)], .i .i64 a1] [] (.tup [.s r0, .p (r1 = true)]) [] := by
  refine con_of_awpF hT mixed (fn := Tryz.f29) Tryz.func29 rfl rfl ?_
  unfold i_DiskRead at h
  refine CK.call false [] h (fun _ h => con_i_fileAt h) (And.intro (And.intro rfl (And.intro rfl trivial)) (And.intro rfl trivial)) trivial rfl (fun _ => rfl) (fun _ => Or.inl rfl) (fun y1 h2 h => ?_)
  refine PS.ite h (fun h3 h => ?_) (fun h3 h => ?_)
  · exact lf2 h fun e0 e1 => Exists.intro [] (And.intro rfl (And.intro trivial (And.intro e0 (And.intro (be e1) trivial))))
  refine CK.call false [] h (fun _ h => con_i_DiskOk h) (And.intro (And.intro rfl (And.intro rfl trivial)) trivial) trivial rfl (fun _ => rfl) (fun _ => Or.inl rfl) (fun y4 h5 h => ?_)
  refine PS.ite h (fun h6 h => ?_) (fun h6 h => ?_)
  · exact lf2 h fun e0 e1 => Exists.intro [] (And.intro rfl (And.intro trivial (And.intro e0 (And.intro (be e1) trivial))))
  refine OB.grd h (fun h7 h => ?_)
  refine EX.get h (fun x8 h9 h => ?_)
  refine OB.mk h7 ?_
  refine EX.pos h9 ?_
  refine OB.grd h (fun h10 h => ?_)
  refine OB.mk (by kernel_rfl) ?_
  exact lf2 h fun e0 e1 => Exists.intro [] (And.intro rfl (And.intro trivial (And.intro e0 (And.intro (be e1) trivial))))
theorem con_i_GetNum {a0 : (List UInt8)} {a1 : Int} {r0 : Int} {r1 : Int} {r2 : Bool} (h : i_GetNum a0 a1 = some (r0, r1, r2)) : Con Tryz.prog 31 [.sl 1 (List.map u8 a0), .i .i64 a1] [] (.tup [.i .i64 r0, .i .i64 r1, .p (r2 = true)]) [] := by
  refine con_of_awpF hT mixed (fn := Tryz.f31) Tryz.func31 rfl rfl ?_
  unfold i_GetNum at h
  refine HY.mk (fun _ => ?_)
  refine CK.call false [] h (fun _ h => con_i_in h) (And.intro rfl (And.intro rfl (And.intro rfl trivial))) trivial rfl (fun _ => rfl) (fun _ => Or.inl rfl) (fun y1 h2 h => ?_)
  refine PS.ite h (fun h3 h => ?_) (fun h3 h => ?_)
  · exact lf3 h fun e0 e1 e2 => Exists.intro [] (And.intro rfl (And.intro trivial (And.intro e0 (And.intro e1 (And.intro (be e2) trivial)))))
  refine LP.fuel (g := i_GetNum_L1 a0 a1 _) (fun (v13, v14) => ⟨[(0, .sl 1 (List.map u8 a0)), (1, .i .i64 a1), (7, .i .i64 v13), (8, .i .i64 v14), (47, .tup []), (48, .tup [])], []⟩) h (fun _ h => by cases h) ?_ ?_
  · exact Exists.intro [] (And.intro rfl (And.intro trivial (And.intro rfl (And.intro rfl (And.intro rfl (And.intro rfl (And.intro trivial (And.intro trivial trivial))))))))
  intro n v h
  obtain ⟨v13, v14⟩ := v
  rw [i_GetNum_L1.eq_2] at h
  refine PS.ite h (fun h15 h => ?_) (fun h15 h => ?_)
  · refine HY.mk (fun _ => ?_)
    refine PS.ite h (fun h16 h => ?_) (fun h16 h => ?_)
    · refine OB.grd h (fun h17 h => ?_)
      refine EX.get h (fun x18 h19 h => ?_)
      refine NN.grd h (fun h20 h => ?_)
      refine PS.ite h (fun h21 h => ?_) (fun h21 h => ?_)
      · refine NX.next h ?_
        exact Exists.intro [] (And.intro rfl (And.intro trivial (And.intro rfl (And.intro rfl (And.intro rfl (And.intro rfl (And.intro trivial (And.intro trivial trivial))))))))
      refine PS.ite h (fun h22 h => ?_) (fun h22 h => ?_)
      · refine PS.ite h (fun h23 h => ?_) (fun h23 h => ?_)
        · exact lf3 h fun e0 e1 e2 => Exists.intro [] (And.intro rfl (And.intro trivial (And.intro e0 (And.intro e1 (And.intro (be e2) trivial)))))
        exact lf3 h fun e0 e1 e2 => Exists.intro [] (And.intro rfl (And.intro trivial (And.intro e0 (And.intro e1 (And.intro (be e2) trivial)))))
      exact lf3 h fun e0 e1 e2 => Exists.intro [] (And.intro rfl (And.intro trivial (And.intro e0 (And.intro e1 (And.intro (be e2) trivial)))))
    exact lf3 h fun e0 e1 e2 => Exists.intro [] (And.intro rfl (And.intro trivial (And.intro e0 (And.intro e1 (And.intro (be e2) trivial)))))
  exact lf3 h fun e0 e1 e2 => Exists.intro [] (And.intro rfl (And.intro trivial (And.intro e0 (And.intro e1 (And.intro (be e2) trivial)))))
theorem con_i_Check {a0 : (List UInt8)} {r0 : Int} (h : i_Check a0 = some r0) : Con Tryz.prog 134 [.sl 1 (List.map u8 a0)] [] (.i .i64 r0) [] := by
  refine con_of_awpF hT mixed (fn := Tryz.f134) Tryz.func134 rfl rfl ?_
  unfold i_Check at h
  refine HY.mk (fun _ => ?_)
  refine LP.fuel (g := i_Check_L1 a0 _) (fun (v5, v6, v7) => ⟨[(3, .i .i64 v5), (4, .i .i64 v6), (7, .sl 1 (List.map u8 a0)), (8, .i .i64 ((ln (List.map u8 a0)))), (9, .i .i64 v7)], []⟩) h (fun _ h => by cases h) ?_ ?_
  · exact Exists.intro [] (And.intro rfl (And.intro trivial (And.intro rfl (And.intro rfl (And.intro rfl (And.intro rfl (And.intro rfl trivial)))))))
  intro n v h
  obtain ⟨v5, v6, v7⟩ := v
  rw [i_Check_L1.eq_2] at h
  refine PS.ite h (fun h8 h => ?_) (fun h8 h => ?_)
  · refine OB.grd h (fun h9 h => ?_)
    refine EX.get h (fun x10 h11 h => ?_)
    refine NX.next h ?_
    exact Exists.intro [] (And.intro rfl (And.intro trivial (And.intro rfl (And.intro rfl (And.intro rfl (And.intro rfl (And.intro rfl trivial)))))))
  exact lf1 h fun e0 => Exists.intro [] (And.intro rfl (And.intro trivial e0))
theorem con_i_checkBytes {a0 : (List UInt8)} {r0 : (List UInt8)} (h : i_checkBytes a0 = some r0) : Con Tryz.prog 68 [.sl 1 (List.map u8 a0)] [] (.own 0) [some (.arr 1 (List.map u8 r0))] := by
  refine con_of_awpF hT mixed (fn := Tryz.f68) Tryz.func68 rfl rfl ?_
  unfold i_checkBytes at h
  refine CK.call false [] h (fun _ h => con_i_Check h) (And.intro rfl trivial) trivial rfl (fun _ => rfl) (fun _ => Or.inl rfl) (fun y1 h2 h => ?_)
  refine RN.to (List.map u8 [(byteOf y1), (byteOf (Int.fdiv y1 (2 ^ (Int.toNat (8 : Int))))), (byteOf (Int.fdiv y1 (2 ^ (Int.toNat (16 : Int))))), (byteOf (Int.fdiv y1 (2 ^ (Int.toNat (24 : Int)))))]) ((consE (u8_of _) (consE (u8_of _) (consE (u8_of _) (consE (u8_of _) rfl))))) ?_
  exact lf1 h fun e0 => Exists.intro [.id 240] (And.intro rfl (And.intro (And.intro (mpe e0) trivial) trivial))
theorem con_g_Equal_byte {a0 : (List UInt8)} {a1 : (List UInt8)} {r0 : Bool} (h : g_Equal_byte a0 a1 = some r0) : Con Tryz.prog 67 [.sl 1 (List.map u8 a0), .sl 1 (List.map u8 a1)] [] (.p (r0 = true)) [] := by
  refine con_of_awpF hT mixed (fn := Tryz.f67) Tryz.func67 rfl rfl ?_
  unfold g_Equal_byte at h
  refine HY.mk (fun _ => ?_)
  refine HY.mk (fun _ => ?_)
  refine PS.ite h (fun h1 h => ?_) (fun h1 h => ?_)
  · exact lf1 h fun e0 => Exists.intro [] (And.intro rfl (And.intro trivial (be e0)))
  refine HY.mk (fun _ => ?_)
  refine LP.fuel (g := g_Equal_byte_L1 a0 a1 _) (fun v9 => ⟨[(0, .sl 1 (List.map u8 a0)), (1, .sl 1 (List.map u8 a1)), (12, .i .i64 ((ln (List.map u8 a0)))), (13, .i .i64 v9)], []⟩) h (fun _ h => by cases h) ?_ ?_
  · exact Exists.intro [] (And.intro rfl (And.intro trivial (And.intro rfl (And.intro rfl (And.intro rfl (And.intro rfl trivial))))))
  intro n v9 h
  rw [g_Equal_byte_L1.eq_2] at h
  refine PS.ite h (fun h10 h => ?_) (fun h10 h => ?_)
  · refine OB.grd h (fun h11 h => ?_)
    refine EX.get h (fun x12 h13 h => ?_)
    refine OB.mk h11 ?_
    refine EX.get h (fun x14 h15 h => ?_)
    refine OB.mk (by kernel_rfl) ?_
    refine PS.ite h (fun h16 h => ?_) (fun h16 h => ?_)
    · exact lf1 h fun e0 => Exists.intro [] (And.intro rfl (And.intro trivial (be e0)))
    refine NX.next h ?_
    exact Exists.intro [] (And.intro rfl (And.intro trivial (And.intro rfl (And.intro rfl (And.intro rfl (And.intro rfl trivial))))))
  exact lf1 h fun e0 => Exists.intro [] (And.intro rfl (And.intro trivial (be e0)))
theorem con_g_Clone_byte {a0 : (List UInt8)} {r : (List UInt8)} (h : g_Clone_byte a0 = some r) : Con Tryz.prog 69 [.sl 1 (List.map u8 a0)] [] (.own 0) [some (.arr 1 (List.map u8 r))] := by
  refine con_of_awpF hT mixed (fn := Tryz.f69) Tryz.func69 rfl rfl ?_
  unfold g_Clone_byte at h
  refine AL.mk (fun q => HY.mk (fun hq => ?_))
  refine PS.mk (fun hp => ?_) (fun hp => ?_)
  · obtain rfl : a0 = [] := List.map_eq_nil_iff.1 (hq hp)
    rw [if_pos (by decide)] at h
    exact lf1 h fun e0 => Exists.intro [.nl] (And.intro rfl (And.intro (And.intro (mpn e0) trivial) trivial))
  refine RN.to (List.map u8 ([] : List UInt8)) rfl ?_
  refine OB.app (enc := u8) (l := a0) rfl (fun _ => rfl) h (fun _ h => ?_)
  refine RN.to (List.map u8 a0) rfl ?_
  exact lf1 h fun e0 => Exists.intro [.id 80] (And.intro rfl (And.intro (And.intro (mpe e0) trivial) trivial))
theorem con_i_Unseal {a0 : (List UInt8)} {a1 : Int} {r0 : (List UInt8)} {r1 : Int} {r2 : Int} (h : i_Unseal a0 a1 = some (r0, r1, r2)) : Con Tryz.prog 30 [.sl 1 (List.map u8 a0), .i .i64 a1] [] (.tup [.own 0, .i .i64 r1, .i .i64 r2]) [some (.arr 1 (List.map u8 r0))] := by
  refine con_of_awpF hT mixed (fn := Tryz.f30) Tryz.func30 rfl rfl ?_
  unfold i_Unseal at h
  refine CK.call false [] h (fun _ h => con_i_GetNum h) (And.intro rfl (And.intro rfl trivial)) trivial rfl (fun _ => rfl) (fun _ => Or.inl rfl) (fun y1 h2 h => ?_)
  refine PS.ite h (fun h3 h => ?_) (fun h3 h => ?_)
  · exact lf3 h fun e0 e1 e2 => Exists.intro [.nl] (And.intro rfl (And.intro (And.intro (mpn e0) trivial) (And.intro trivial (And.intro e1 (And.intro e2 trivial)))))
  refine PS.ite h (fun h4 h => ?_) (fun h4 h => ?_)
  · exact lf3 h fun e0 e1 e2 => Exists.intro [.nl] (And.intro rfl (And.intro (And.intro (mpn e0) trivial) (And.intro trivial (And.intro e1 (And.intro e2 trivial)))))
  refine HY.mk (fun _ => ?_)
  refine PS.ite h (fun h5 h => ?_) (fun h5 h => ?_)
  · exact lf3 h fun e0 e1 e2 => Exists.intro [.nl] (And.intro rfl (And.intro (And.intro (mpn e0) trivial) (And.intro trivial (And.intro e1 (And.intro e2 trivial)))))
  refine OB.grd h (fun h6 h => ?_)
  refine RN.to (List.map u8 (sub a0 (Int.toNat y1.2.1) (Int.toNat (w64 (y1.2.1 + y1.1))) false)) sub_F ?_
  refine CK.call false [] h (fun _ h => con_i_checkBytes h) (And.intro rfl trivial) trivial rfl (fun _ => rfl) (fun _ => Or.inl rfl) (fun y7 h8 h => ?_)
  refine RN.mk ?_
  refine OB.grd h (fun h9 h => ?_)
  refine RN.to (List.map u8 (sub a0 (Int.toNat (w64 (y1.2.1 + y1.1))) (Int.toNat (w64 ((w64 (y1.2.1 + y1.1)) + (4 : Int)))) false)) sub_F ?_
  refine CK.call false [] h (fun _ h => con_g_Equal_byte h) (And.intro rfl (And.intro rfl trivial)) trivial rfl (fun _ => rfl) (fun _ => Or.inr (Flat.mk rfl trivial)) (fun y10 h11 h => ?_)
  refine OB.mk (by kernel_rfl) ?_
  refine PS.ite h (fun h12 h => ?_) (fun h12 h => ?_)
  · exact lf3 h fun e0 e1 e2 => Exists.intro [.nl] (And.intro rfl (And.intro (And.intro (mpn e0) trivial) (And.intro trivial (And.intro e1 (And.intro e2 trivial)))))
  refine OB.mk h6 ?_
  refine RN.to (List.map u8 (sub a0 (Int.toNat y1.2.1) (Int.toNat (w64 (y1.2.1 + y1.1))) false)) sub_F ?_
  refine CK.call false [] h (fun _ h => con_g_Clone_byte h) (And.intro rfl trivial) trivial rfl (fun _ => rfl) (fun _ => Or.inl rfl) (fun y13 h14 h => ?_)
  refine RN.mk ?_
  exact lf3 h fun e0 e1 e2 => Exists.intro [.id 768] (And.intro rfl (And.intro (And.intro (mpe e0) trivial) (And.intro trivial (And.intro e1 (And.intro e2 trivial)))))
theorem con_i_isSeg {a0 : Int} {r0 : Bool} (h : i_isSeg a0 = some r0) : Con Tryz.prog 32 [.i .i64 a0] [] (.p (r0 = true)) [] := by
  refine con_of_awpF hT mixed (fn := Tryz.f32) Tryz.func32 rfl rfl ?_
  unfold i_isSeg at h
  refine CK.call false [] h (fun _ h => con_i_in h) (And.intro rfl (And.intro rfl (And.intro rfl trivial))) trivial rfl (fun _ => rfl) (fun _ => Or.inl rfl) (fun y1 h2 h => ?_)
  exact lf1 h fun e0 => Exists.intro [] (And.intro rfl (And.intro trivial (be e0)))
theorem con_i_numReader_one {a0_0 : (List UInt8)} {a0_1 : Int} {a0_2 : Bool} {r0 : Int} {r1 : Int} {r2 : Bool} (h : i_numReader_one a0_0 a0_1 a0_2 = some (r0, r1, r2)) : Con Tryz.prog 71 [.ptr 0 0] [.box [.sl 1 (List.map u8 a0_0), .i .i64 a0_1, .p (a0_2 = true)]] (.i .i64 r0) [some (.box [.sl 1 (List.map u8 a0_0), .i .i64 r1, .p (r2 = true)])] := by
  refine con_of_awpF hT mixed (fn := Tryz.f71) Tryz.func71 rfl rfl ?_
  unfold i_numReader_one at h
  refine CK.call false [] h (fun _ h => con_i_GetNum h) (And.intro rfl (And.intro rfl trivial)) trivial rfl (fun _ => rfl) (fun _ => Or.inl rfl) (fun y1 h2 h => ?_)
  refine OB.mk (by kernel_rfl) ?_
  refine PS.ite h (fun h3 h => ?_) (fun h3 h => ?_)
  · exact lf3 h fun e0 e1 e2 => Exists.intro [.id 0] (And.intro rfl (And.intro (And.intro (And.intro rfl (And.intro e1 (And.intro (be e2) trivial))) trivial) e0))
  refine PS.ite h (fun h4 h => ?_) (fun h4 h => ?_)
  · exact lf3 h fun e0 e1 e2 => Exists.intro [.id 0] (And.intro rfl (And.intro (And.intro (And.intro rfl (And.intro e1 (And.intro (be e2) trivial))) trivial) e0))
  exact lf3 h fun e0 e1 e2 => Exists.intro [.id 0] (And.intro rfl (And.intro (And.intro (And.intro rfl (And.intro e1 (And.intro (be e2) trivial))) trivial) e0))
theorem con_i_numReader_many {a0_0 : (List UInt8)} {a0_1 : Int} {a0_2 : Bool} {a1 : Int} {r0 : Int} {r1 : Int} {r2 : Bool} (h : i_numReader_many a0_0 a0_1 a0_2 a1 = some (r0, r1, r2)) : Con Tryz.prog 70 [.ptr 0 0, .i .i64 a1] [.box [.sl 1 (List.map u8 a0_0), .i .i64 a0_1, .p (a0_2 = true)]] (.i .i64 r0) [some (.box [.sl 1 (List.map u8 a0_0), .i .i64 r1, .p (r2 = true)])] := by
  refine con_of_awpF hT mixed (fn := Tryz.f70) Tryz.func70 rfl rfl ?_
  unfold i_numReader_many at h
  refine CK.call false [0] h (fun _ h => con_i_numReader_one h) (And.intro rfl trivial) (And.intro (And.intro rfl (And.intro rfl (And.intro Iff.rfl trivial))) trivial) rfl (fun _ => rfl) (fun _ => Or.inl rfl) (fun y1 h2 h => ?_)
  refine PS.ite h (fun h3 h => ?_) (fun h3 h => ?_)
  · exact lf3 h fun e0 e1 e2 => Exists.intro [.id 0] (And.intro rfl (And.intro (And.intro (And.intro rfl (And.intro e1 (And.intro (be e2) trivial))) trivial) e0))
  exact lf3 h fun e0 e1 e2 => Exists.intro [.id 0] (And.intro rfl (And.intro (And.intro (And.intro rfl (And.intro e1 (And.intro (be e2) trivial))) trivial) e0))
theorem con_i_numReader_lot {a0_0 : (List UInt8)} {a0_1 : Int} {a0_2 : Bool} {r0 : Int} {r1 : Int} {r2 : Int} {r3 : Int} {r4 : Int} {r5 : Int} {r6 : Bool} (h : i_numReader_lot a0_0 a0_1 a0_2 = some (r0, r1, r2, r3, r4, r5, r6)) : Con Tryz.prog 72 [.ptr 0 0] [.box [.sl 1 (List.map u8 a0_0), .i .i64 a0_1, .p (a0_2 = true)]] (.agg [.i .i64 r0, .i .i64 r1, .i .i64 r2, .i .i64 r3, .i .i64 r4]) [some (.box [.sl 1 (List.map u8 a0_0), .i .i64 r5, .p (r6 = true)])] := by
  refine con_of_awpF hT mixed (fn := Tryz.f72) Tryz.func72 rfl rfl ?_
  unfold i_numReader_lot at h
  refine CK.call false [0] h (fun _ h => con_i_numReader_one h) (And.intro rfl trivial) (And.intro (And.intro rfl (And.intro rfl (And.intro Iff.rfl trivial))) trivial) rfl (fun _ => rfl) (fun _ => Or.inl rfl) (fun y1 h2 h => ?_)
  refine CK.call false [0] h (fun _ h => con_i_numReader_one h) (And.intro rfl trivial) (And.intro (And.intro rfl (And.intro rfl (And.intro Iff.rfl trivial))) trivial) rfl (fun _ => rfl) (fun _ => Or.inl rfl) (fun y3 h4 h => ?_)
  refine CK.call false [0] h (fun _ h => con_i_numReader_one h) (And.intro rfl trivial) (And.intro (And.intro rfl (And.intro rfl (And.intro Iff.rfl trivial))) trivial) rfl (fun _ => rfl) (fun _ => Or.inl rfl) (fun y5 h6 h => ?_)
  refine CK.call false [0] h (fun _ h => con_i_numReader_one h) (And.intro rfl trivial) (And.intro (And.intro rfl (And.intro rfl (And.intro Iff.rfl trivial))) trivial) rfl (fun _ => rfl) (fun _ => Or.inl rfl) (fun y7 h8 h => ?_)
  refine CK.call false [0] h (fun _ h => con_i_numReader_one h) (And.intro rfl trivial) (And.intro (And.intro rfl (And.intro rfl (And.intro Iff.rfl trivial))) trivial) rfl (fun _ => rfl) (fun _ => Or.inl rfl) (fun y9 h10 h => ?_)
  exact lf7 h fun e0 e1 e2 e3 e4 e5 e6 => Exists.intro [.id 0] (And.intro rfl (And.intro (And.intro (And.intro rfl (And.intro e5 (And.intro (be e6) trivial))) trivial) (And.intro e0 (And.intro e1 (And.intro e2 (And.intro e3 (And.intro e4 trivial)))))))
theorem con_i_numReader_trade {a0_0 : (List UInt8)} {a0_1 : Int} {a0_2 : Bool} {r0 : Int} {r1 : Int} {r2 : Int} {r3 : Int} {r4 : Int} {r5 : Int} {r6 : Int} {r7 : Int} {r8 : Int} {r9 : Bool} (h : i_numReader_trade a0_0 a0_1 a0_2 = some (r0, r1, r2, r3, r4, r5, r6, r7, r8, r9)) : Con Tryz.prog 73 [.ptr 0 0] [.box [.sl 1 (List.map u8 a0_0), .i .i64 a0_1, .p (a0_2 = true)]] (.agg [.i .i64 r0, .i .i64 r1, .i .i64 r2, .i .i64 r3, .i .i64 r4, .i .i64 r5, .i .i64 r6, .i .i64 r7]) [some (.box [.sl 1 (List.map u8 a0_0), .i .i64 r8, .p (r9 = true)])] := by
  refine con_of_awpF hT mixed (fn := Tryz.f73) Tryz.func73 rfl rfl ?_
  unfold i_numReader_trade at h
  refine CK.call false [0] h (fun _ h => con_i_numReader_one h) (And.intro rfl trivial) (And.intro (And.intro rfl (And.intro rfl (And.intro Iff.rfl trivial))) trivial) rfl (fun _ => rfl) (fun _ => Or.inl rfl) (fun y1 h2 h => ?_)
  refine CK.call false [0] h (fun _ h => con_i_numReader_one h) (And.intro rfl trivial) (And.intro (And.intro rfl (And.intro rfl (And.intro Iff.rfl trivial))) trivial) rfl (fun _ => rfl) (fun _ => Or.inl rfl) (fun y3 h4 h => ?_)
  refine CK.call false [0] h (fun _ h => con_i_numReader_one h) (And.intro rfl trivial) (And.intro (And.intro rfl (And.intro rfl (And.intro Iff.rfl trivial))) trivial) rfl (fun _ => rfl) (fun _ => Or.inl rfl) (fun y5 h6 h => ?_)
  refine CK.call false [0] h (fun _ h => con_i_numReader_one h) (And.intro rfl trivial) (And.intro (And.intro rfl (And.intro rfl (And.intro Iff.rfl trivial))) trivial) rfl (fun _ => rfl) (fun _ => Or.inl rfl) (fun y7 h8 h => ?_)
  refine CK.call false [0] h (fun _ h => con_i_numReader_one h) (And.intro rfl trivial) (And.intro (And.intro rfl (And.intro rfl (And.intro Iff.rfl trivial))) trivial) rfl (fun _ => rfl) (fun _ => Or.inl rfl) (fun y9 h10 h => ?_)
  refine CK.call false [0] h (fun _ h => con_i_numReader_one h) (And.intro rfl trivial) (And.intro (And.intro rfl (And.intro rfl (And.intro Iff.rfl trivial))) trivial) rfl (fun _ => rfl) (fun _ => Or.inl rfl) (fun y11 h12 h => ?_)
  refine CK.call false [0] h (fun _ h => con_i_numReader_one h) (And.intro rfl trivial) (And.intro (And.intro rfl (And.intro rfl (And.intro Iff.rfl trivial))) trivial) rfl (fun _ => rfl) (fun _ => Or.inl rfl) (fun y13 h14 h => ?_)
  refine CK.call false [0] h (fun _ h => con_i_numReader_one h) (And.intro rfl trivial) (And.intro (And.intro rfl (And.intro rfl (And.intro Iff.rfl trivial))) trivial) rfl (fun _ => rfl) (fun _ => Or.inl rfl) (fun y15 h16 h => ?_)
  exact lf10 h fun e0 e1 e2 e3 e4 e5 e6 e7 e8 e9 => Exists.intro [.id 0] (And.intro rfl (And.intro (And.intro (And.intro rfl (And.intro e8 (And.intro (be e9) trivial))) trivial) (And.intro e0 (And.intro e1 (And.intro e2 (And.intro e3 (And.intro e4 (And.intro e5 (And.intro e6 (And.intro e7 trivial))))))))))
theorem con_i_isNo {a0 : Int} {r0 : Bool} (h : i_isNo a0 = some r0) : Con Tryz.prog 169 [.i .i64 a0] [] (.p (r0 = true)) [] := by
  refine con_of_awpF hT mixed (fn := Tryz.f169) Tryz.func169 rfl rfl ?_
  unfold i_isNo at h
  refine CK.call false [] h (fun _ h => con_i_in h) (And.intro rfl (And.intro rfl (And.intro rfl trivial))) trivial rfl (fun _ => rfl) (fun _ => Or.inl rfl) (fun y1 h2 h => ?_)
  exact lf1 h fun e0 => Exists.intro [] (And.intro rfl (And.intro trivial (be e0)))
theorem con_i_AccountsOk {a0 : (List MAccount)} {r0 : Bool} (h : i_AccountsOk a0 = some r0) : Con Tryz.prog 135 [.sl 2 (List.map MAccount.av a0)] [] (.p (r0 = true)) [] := by
  refine con_of_awpF hT mixed (fn := Tryz.f135) Tryz.func135 rfl rfl ?_
  unfold i_AccountsOk at h
  refine HY.mk (fun _ => ?_)
  refine LP.fuel (g := i_AccountsOk_L1 a0 _) (fun v16 => ⟨[(0, .sl 2 (List.map MAccount.av a0)), (5, .sl 2 (List.map MAccount.av a0)), (6, .i .i64 ((ln (List.map MAccount.av a0)))), (7, .i .i64 v16)], []⟩) h (fun _ h => by cases h) ?_ ?_
  · exact Exists.intro [] (And.intro rfl (And.intro trivial (And.intro rfl (And.intro rfl (And.intro rfl (And.intro rfl trivial))))))
  intro n v16 h
  rw [i_AccountsOk_L1.eq_2] at h
  refine PS.ite h (fun h17 h => ?_) (fun h17 h => ?_)
  · refine OB.grd h (fun h18 h => ?_)
    refine EX.get h (fun x19 h20 h => ?_)
    refine CK.call false [] h (fun _ h => con_i_isNo h) (And.intro rfl trivial) trivial rfl (fun _ => rfl) (fun _ => Or.inl rfl) (fun y21 h22 h => ?_)
    refine PS.ite h (fun h23 h => ?_) (fun h23 h => ?_)
    · refine PS.pos h23 ?_
      iterate 3 refine PS.pos h23 ?_
      refine OB.mk (by kernel_rfl) ?_
      exact lf1 h fun e0 => Exists.intro [] (And.intro rfl (And.intro trivial (be e0)))
    refine PS.neg h23 ?_
    refine PS.neg h23 ?_
    refine CK.call false [] h (fun _ h => con_i_in h) (And.intro rfl (And.intro rfl (And.intro rfl trivial))) trivial rfl (fun _ => rfl) (fun _ => Or.inl rfl) (fun y24 h25 h => ?_)
    refine PS.neg h23 ?_
    refine PS.neg h23 ?_
    refine PS.ite h (fun h26 h => ?_) (fun h26 h => ?_)
    · refine PS.pos h26 ?_
      iterate 3 refine PS.pos h26 ?_
      refine OB.mk (by kernel_rfl) ?_
      exact lf1 h fun e0 => Exists.intro [] (And.intro rfl (And.intro trivial (be e0)))
    refine PS.neg h26 ?_
    refine PS.neg h26 ?_
    refine PS.ite h (fun h27 h => ?_) (fun h27 h => ?_)
    · refine PS.pos h27 ?_
      refine PS.pos h27 ?_
      refine PS.pos h27 ?_
      refine OB.grd h (fun h28 h => ?_)
      refine EX.get h (fun x29 h30 h => ?_)
      iterate 5 refine PS.pos h27 ?_
      refine PS.neg h26 ?_
      refine PS.pos h27 ?_
      refine PS.neg h26 ?_
      refine OB.mk (by kernel_rfl) ?_
      refine PS.ite h (fun h31 h => ?_) (fun h31 h => ?_)
      · exact lf1 h fun e0 => Exists.intro [] (And.intro rfl (And.intro trivial (be e0)))
      refine NX.next h ?_
      exact Exists.intro [] (And.intro rfl (And.intro trivial (And.intro rfl (And.intro rfl (And.intro rfl (And.intro rfl trivial))))))
    iterate 8 refine PS.neg h27 ?_
    refine PS.neg h26 ?_
    refine PS.neg h27 ?_
    refine PS.neg h26 ?_
    refine OB.mk (by kernel_rfl) ?_
    refine NX.next h ?_
    exact Exists.intro [] (And.intro rfl (And.intro trivial (And.intro rfl (And.intro rfl (And.intro rfl (And.intro rfl trivial))))))
  refine HY.mk (fun _ => ?_)
  exact lf1 h fun e0 => Exists.intro [] (And.intro rfl (And.intro trivial (pqe e0)))
theorem con_i_InstrsOk {a0 : (List MInstr)} {r0 : Bool} (h : i_InstrsOk a0 = some r0) : Con Tryz.prog 136 [.sl 2 (List.map MInstr.av a0)] [] (.p (r0 = true)) [] := by
  refine con_of_awpF hT mixed (fn := Tryz.f136) Tryz.func136 rfl rfl ?_
  unfold i_InstrsOk at h
  refine HY.mk (fun _ => ?_)
  refine LP.fuel (g := i_InstrsOk_L1 a0 _) (fun v16 => ⟨[(0, .sl 2 (List.map MInstr.av a0)), (5, .sl 2 (List.map MInstr.av a0)), (6, .i .i64 ((ln (List.map MInstr.av a0)))), (7, .i .i64 v16)], []⟩) h (fun _ h => by cases h) ?_ ?_
  · exact Exists.intro [] (And.intro rfl (And.intro trivial (And.intro rfl (And.intro rfl (And.intro rfl (And.intro rfl trivial))))))
  intro n v16 h
  rw [i_InstrsOk_L1.eq_2] at h
  refine PS.ite h (fun h17 h => ?_) (fun h17 h => ?_)
  · refine OB.grd h (fun h18 h => ?_)
    refine EX.get h (fun x19 h20 h => ?_)
    refine CK.call false [] h (fun _ h => con_i_isNo h) (And.intro rfl trivial) trivial rfl (fun _ => rfl) (fun _ => Or.inl rfl) (fun y21 h22 h => ?_)
    refine PS.ite h (fun h23 h => ?_) (fun h23 h => ?_)
    · refine PS.pos h23 ?_
      iterate 3 refine PS.pos h23 ?_
      refine OB.mk (by kernel_rfl) ?_
      exact lf1 h fun e0 => Exists.intro [] (And.intro rfl (And.intro trivial (be e0)))
    refine PS.neg h23 ?_
    refine PS.neg h23 ?_
    refine CK.call false [] h (fun _ h => con_i_in h) (And.intro rfl (And.intro rfl (And.intro rfl trivial))) trivial rfl (fun _ => rfl) (fun _ => Or.inl rfl) (fun y24 h25 h => ?_)
    refine PS.neg h23 ?_
    refine PS.neg h23 ?_
    refine PS.ite h (fun h26 h => ?_) (fun h26 h => ?_)
    · refine PS.pos h26 ?_
      iterate 3 refine PS.pos h26 ?_
      refine OB.mk (by kernel_rfl) ?_
      exact lf1 h fun e0 => Exists.intro [] (And.intro rfl (And.intro trivial (be e0)))
    refine PS.neg h26 ?_
    refine PS.neg h26 ?_
    refine PS.ite h (fun h27 h => ?_) (fun h27 h => ?_)
    · refine PS.pos h27 ?_
      refine PS.pos h27 ?_
      refine PS.pos h27 ?_
      refine OB.grd h (fun h28 h => ?_)
      refine EX.get h (fun x29 h30 h => ?_)
      iterate 5 refine PS.pos h27 ?_
      refine PS.neg h26 ?_
      refine PS.pos h27 ?_
      refine PS.neg h26 ?_
      refine OB.mk (by kernel_rfl) ?_
      refine PS.ite h (fun h31 h => ?_) (fun h31 h => ?_)
      · exact lf1 h fun e0 => Exists.intro [] (And.intro rfl (And.intro trivial (be e0)))
      refine NX.next h ?_
      exact Exists.intro [] (And.intro rfl (And.intro trivial (And.intro rfl (And.intro rfl (And.intro rfl (And.intro rfl trivial))))))
    iterate 8 refine PS.neg h27 ?_
    refine PS.neg h26 ?_
    refine PS.neg h27 ?_
    refine PS.neg h26 ?_
    refine OB.mk (by kernel_rfl) ?_
    refine NX.next h ?_
    exact Exists.intro [] (And.intro rfl (And.intro trivial (And.intro rfl (And.intro rfl (And.intro rfl (And.intro rfl trivial))))))
  refine HY.mk (fun _ => ?_)
  exact lf1 h fun e0 => Exists.intro [] (And.intro rfl (And.intro trivial (pqe e0)))
theorem con_i_AmountOk {a0 : Int} {r0 : Bool} (h : i_AmountOk a0 = some r0) : Con Tryz.prog 170 [.i .i64 a0] [] (.p (r0 = true)) [] := by
  refine con_of_awpF hT mixed (fn := Tryz.f170) Tryz.func170 rfl rfl ?_
  unfold i_AmountOk at h
  refine CK.call false [] h (fun _ h => con_i_in h) (And.intro rfl (And.intro rfl (And.intro rfl trivial))) trivial rfl (fun _ => rfl) (fun _ => Or.inl rfl) (fun y1 h2 h => ?_)
  exact lf1 h fun e0 => Exists.intro [] (And.intro rfl (And.intro trivial (be e0)))
theorem con_i_byBoth {a0 : Int} {a1 : Int} {a2 : Int} {a3 : Int} {r0 : Int} (h : i_byBoth a0 a1 a2 a3 = some r0) : Con Tryz.prog 171 [.i .i64 a0, .i .i64 a1, .i .i64 a2, .i .i64 a3] [] (.i .i64 r0) [] := by
  refine con_of_awpF hT mixed (fn := Tryz.f171) Tryz.func171 rfl rfl ?_
  unfold i_byBoth at h
  refine PS.ite h (fun h1 h => ?_) (fun h1 h => ?_)
  · exact lf1 h fun e0 => Exists.intro [] (And.intro rfl (And.intro trivial e0))
  refine PS.ite h (fun h2 h => ?_) (fun h2 h => ?_)
  · refine PS.ite h (fun h3 h => ?_) (fun h3 h => ?_)
    · exact lf1 h fun e0 => Exists.intro [] (And.intro rfl (And.intro trivial e0))
    refine PS.pos h2 ?_
    refine PS.ite h (fun h4 h => ?_) (fun h4 h => ?_)
    · exact lf1 h fun e0 => Exists.intro [] (And.intro rfl (And.intro trivial e0))
    exact lf1 h fun e0 => Exists.intro [] (And.intro rfl (And.intro trivial e0))
  refine PS.neg h2 ?_
  exact lf1 h fun e0 => Exists.intro [] (And.intro rfl (And.intro trivial e0))
theorem con_i_BalsOk {a0 : (List MBal)} {r0 : Bool} (h : i_BalsOk a0 = some r0) : Con Tryz.prog 137 [.sl 3 (List.map MBal.av a0)] [] (.p (r0 = true)) [] := by
  refine con_of_awpF hT mixed (fn := Tryz.f137) Tryz.func137 rfl rfl ?_
  unfold i_BalsOk at h
  refine HY.mk (fun _ => ?_)
  refine LP.fuel (g := i_BalsOk_L1 a0 _) (fun v22 => ⟨[(0, .sl 3 (List.map MBal.av a0)), (5, .sl 3 (List.map MBal.av a0)), (6, .i .i64 ((ln (List.map MBal.av a0)))), (7, .i .i64 v22)], []⟩) h (fun _ h => by cases h) ?_ ?_
  · exact Exists.intro [] (And.intro rfl (And.intro trivial (And.intro rfl (And.intro rfl (And.intro rfl (And.intro rfl trivial))))))
  intro n v22 h
  rw [i_BalsOk_L1.eq_2] at h
  refine PS.ite h (fun h23 h => ?_) (fun h23 h => ?_)
  · refine OB.grd h (fun h24 h => ?_)
    refine EX.get h (fun x25 h26 h => ?_)
    refine CK.call false [] h (fun _ h => con_i_isNo h) (And.intro rfl trivial) trivial rfl (fun _ => rfl) (fun _ => Or.inl rfl) (fun y27 h28 h => ?_)
    refine PS.ite h (fun h29 h => ?_) (fun h29 h => ?_)
    · exact lf1 h fun e0 => Exists.intro [] (And.intro rfl (And.intro trivial (be e0)))
    refine CK.call false [] h (fun _ h => con_i_isNo h) (And.intro rfl trivial) trivial rfl (fun _ => rfl) (fun _ => Or.inl rfl) (fun y30 h31 h => ?_)
    refine PS.ite h (fun h32 h => ?_) (fun h32 h => ?_)
    · exact lf1 h fun e0 => Exists.intro [] (And.intro rfl (And.intro trivial (be e0)))
    refine CK.call false [] h (fun _ h => con_i_AmountOk h) (And.intro rfl trivial) trivial rfl (fun _ => rfl) (fun _ => Or.inl rfl) (fun y33 h34 h => ?_)
    refine PS.ite h (fun h35 h => ?_) (fun h35 h => ?_)
    · exact lf1 h fun e0 => Exists.intro [] (And.intro rfl (And.intro trivial (be e0)))
    refine PS.ite h (fun h36 h => ?_) (fun h36 h => ?_)
    · exact lf1 h fun e0 => Exists.intro [] (And.intro rfl (And.intro trivial (be e0)))
    refine PS.ite h (fun h37 h => ?_) (fun h37 h => ?_)
    · refine PS.pos h37 ?_
      refine PS.pos h37 ?_
      refine PS.pos h37 ?_
      refine OB.grd h (fun h38 h => ?_)
      refine EX.get h (fun x39 h40 h => ?_)
      iterate 6 refine PS.pos h37 ?_
      refine OB.mk h38 ?_
      refine EX.pos h40 ?_
      iterate 7 refine PS.pos h37 ?_
      refine CK.call false [] h (fun _ h => con_i_byBoth h) (And.intro rfl (And.intro rfl (And.intro rfl (And.intro rfl trivial)))) trivial rfl (fun _ => rfl) (fun _ => Or.inl rfl) (fun y41 h42 h => ?_)
      refine PS.pos h37 ?_
      refine PS.pos h37 ?_
      refine OB.mk (by kernel_rfl) ?_
      refine PS.ite h (fun h43 h => ?_) (fun h43 h => ?_)
      · exact lf1 h fun e0 => Exists.intro [] (And.intro rfl (And.intro trivial (be e0)))
      refine NX.next h ?_
      exact Exists.intro [] (And.intro rfl (And.intro trivial (And.intro rfl (And.intro rfl (And.intro rfl (And.intro rfl trivial))))))
    iterate 18 refine PS.neg h37 ?_
    refine OB.mk (by kernel_rfl) ?_
    refine NX.next h ?_
    exact Exists.intro [] (And.intro rfl (And.intro trivial (And.intro rfl (And.intro rfl (And.intro rfl (And.intro rfl trivial))))))
  refine HY.mk (fun _ => ?_)
  exact lf1 h fun e0 => Exists.intro [] (And.intro rfl (And.intro trivial (pqe e0)))
theorem con_i_lotForm {a0 : MLot} {r0 : Bool} (h : i_lotForm a0 = some r0) : Con Tryz.prog 172 [.agg [.i .i64 a0.Account, .i .i64 a0.Instr, .i .i64 a0.No, .i .i64 a0.Qty, .i .i64 a0.Cost]] [] (.p (r0 = true)) [] := by
  refine con_of_awpF hT mixed (fn := Tryz.f172) Tryz.func172 rfl rfl ?_
  unfold i_lotForm at h
  refine CK.call false [] h (fun _ h => con_i_isNo h) (And.intro rfl trivial) trivial rfl (fun _ => rfl) (fun _ => Or.inl rfl) (fun y1 h2 h => ?_)
  refine PS.ite h (fun h3 h => ?_) (fun h3 h => ?_)
  · refine CK.call false [] h (fun _ h => con_i_isNo h) (And.intro rfl trivial) trivial rfl (fun _ => rfl) (fun _ => Or.inl rfl) (fun y4 h5 h => ?_)
    refine PS.ite h (fun h6 h => ?_) (fun h6 h => ?_)
    · refine CK.call false [] h (fun _ h => con_i_in h) (And.intro rfl (And.intro rfl (And.intro rfl trivial))) trivial rfl (fun _ => rfl) (fun _ => Or.inl rfl) (fun y7 h8 h => ?_)
      refine PS.ite h (fun h9 h => ?_) (fun h9 h => ?_)
      · refine CK.call false [] h (fun _ h => con_i_in h) (And.intro rfl (And.intro rfl (And.intro rfl trivial))) trivial rfl (fun _ => rfl) (fun _ => Or.inl rfl) (fun y10 h11 h => ?_)
        refine PS.ite h (fun h12 h => ?_) (fun h12 h => ?_)
        · refine CK.call false [] h (fun _ h => con_i_in h) (And.intro rfl (And.intro rfl (And.intro rfl trivial))) trivial rfl (fun _ => rfl) (fun _ => Or.inl rfl) (fun y13 h14 h => ?_)
          exact lf1 h fun e0 => Exists.intro [] (And.intro rfl (And.intro trivial (be e0)))
        exact lf1 h fun e0 => Exists.intro [] (And.intro rfl (And.intro trivial (be e0)))
      exact lf1 h fun e0 => Exists.intro [] (And.intro rfl (And.intro trivial (be e0)))
    exact lf1 h fun e0 => Exists.intro [] (And.intro rfl (And.intro trivial (be e0)))
  exact lf1 h fun e0 => Exists.intro [] (And.intro rfl (And.intro trivial (be e0)))
theorem con_i_lotBefore {a0 : MLot} {a1 : MLot} {r0 : Int} (h : i_lotBefore a0 a1 = some r0) : Con Tryz.prog 173 [.agg [.i .i64 a0.Account, .i .i64 a0.Instr, .i .i64 a0.No, .i .i64 a0.Qty, .i .i64 a0.Cost], .agg [.i .i64 a1.Account, .i .i64 a1.Instr, .i .i64 a1.No, .i .i64 a1.Qty, .i .i64 a1.Cost]] [] (.i .i64 r0) [] := by
  refine con_of_awpF hT mixed (fn := Tryz.f173) Tryz.func173 rfl rfl ?_
  unfold i_lotBefore at h
  refine CK.call false [] h (fun _ h => con_i_byBoth h) (And.intro rfl (And.intro rfl (And.intro rfl (And.intro rfl trivial)))) trivial rfl (fun _ => rfl) (fun _ => Or.inl rfl) (fun y1 h2 h => ?_)
  refine PS.ite h (fun h3 h => ?_) (fun h3 h => ?_)
  · exact lf1 h fun e0 => Exists.intro [] (And.intro rfl (And.intro trivial e0))
  refine PS.ite h (fun h4 h => ?_) (fun h4 h => ?_)
  · exact lf1 h fun e0 => Exists.intro [] (And.intro rfl (And.intro trivial e0))
  refine PS.ite h (fun h5 h => ?_) (fun h5 h => ?_)
  · exact lf1 h fun e0 => Exists.intro [] (And.intro rfl (And.intro trivial e0))
  exact lf1 h fun e0 => Exists.intro [] (And.intro rfl (And.intro trivial e0))
theorem con_g_Clone_Lot {a0 : (List MLot)} {r : (List MLot)} (h : g_Clone_Lot a0 = some r) : Con Tryz.prog 192 [.sl 5 (List.map MLot.av a0)] [] (.own 0) [some (.arr 5 (List.map MLot.av r))] := by
  refine con_of_awpF hT mixed (fn := Tryz.f192) Tryz.func192 rfl rfl ?_
  unfold g_Clone_Lot at h
  refine AL.mk (fun q => HY.mk (fun hq => ?_))
  refine PS.mk (fun hp => ?_) (fun hp => ?_)
  · obtain rfl : a0 = [] := List.map_eq_nil_iff.1 (hq hp)
    rw [if_pos (by decide)] at h
    exact lf1 h fun e0 => Exists.intro [.nl] (And.intro rfl (And.intro (And.intro (mpn e0) trivial) trivial))
  refine RN.to (List.map MLot.av ([] : List MLot)) rfl ?_
  refine OB.app (enc := MLot.av) (l := a0) rfl (fun _ => rfl) h (fun _ h => ?_)
  refine RN.to (List.map MLot.av a0) rfl ?_
  exact lf1 h fun e0 => Exists.intro [.id 80] (And.intro rfl (And.intro (And.intro (mpe e0) trivial) trivial))
theorem con_i_isLot {a0 : MLot} {a1 : Int} {a2 : Int} {r0 : Bool} (h : i_isLot a0 a1 a2 = some r0) : Con Tryz.prog 194 [.agg [.i .i64 a0.Account, .i .i64 a0.Instr, .i .i64 a0.No, .i .i64 a0.Qty, .i .i64 a0.Cost], .i .i64 a1, .i .i64 a2] [] (.p (r0 = true)) [] := by
  refine con_of_awpF hT mixed (fn := Tryz.f194) Tryz.func194 rfl rfl ?_
  unfold i_isLot at h
  refine PS.ite h (fun h1 h => ?_) (fun h1 h => ?_)
  · exact lf1 h fun e0 => Exists.intro [] (And.intro rfl (And.intro trivial (pqe e0)))
  exact lf1 h fun e0 => Exists.intro [] (And.intro rfl (And.intro trivial (be e0)))
theorem con_i_lotsOf_c1 {a0 : MLot} {a1_0 : Int} {a2_0 : Int} {r0 : Bool} (h : i_lotsOf_c1 a0 a1_0 a2_0 = some r0) : Con Tryz.prog 193 [.agg [.i .i64 a0.Account, .i .i64 a0.Instr, .i .i64 a0.No, .i .i64 a0.Qty, .i .i64 a0.Cost], .rp [.i .i64 a1_0], .rp [.i .i64 a2_0]] [] (.p (r0 = true)) [] := by
  refine con_of_awpF hT mixed (fn := Tryz.f193) Tryz.func193 rfl rfl ?_
  unfold i_lotsOf_c1 at h
  refine CK.call false [] h (fun _ h => con_i_isLot h) (And.intro (And.intro rfl (And.intro rfl (And.intro rfl (And.intro rfl (And.intro rfl trivial))))) (And.intro rfl (And.intro rfl trivial))) trivial rfl (fun _ => rfl) (fun _ => Or.inl rfl) (fun y1 h2 h => ?_)
  exact lf1 h fun e0 => Exists.intro [] (And.intro rfl (And.intro trivial (pqe e0)))
theorem con_g_IndexFunc_Lot_s1 {a0 : (List MLot)} {a1_0_0 : Int} {a1_1_0 : Int} {r0 : Int} (h : g_IndexFunc_Lot_s1 a0 a1_0_0 a1_1_0 = some r0) : Con Tryz.prog 190 [.sl 5 (List.map MLot.av a0), .fn (.func 193) [] [.rp [.i .i64 a1_0_0], .rp [.i .i64 a1_1_0]]] [] (.i .i64 r0) [] := by
  refine con_of_awpF hT mixed (fn := Tryz.f190) Tryz.func190 rfl rfl ?_
  unfold g_IndexFunc_Lot_s1 at h
  refine HY.mk (fun _ => ?_)
  refine LP.fuel (g := g_IndexFunc_Lot_s1_L1 a0 a1_0_0 a1_1_0 _) (fun v8 => ⟨[(0, .sl 5 (List.map MLot.av a0)), (1, .fn (.func 193) [] [.rp [.i .i64 a1_0_0], .rp [.i .i64 a1_1_0]]), (7, .i .i64 ((ln (List.map MLot.av a0)))), (8, .i .i64 v8)], []⟩) h (fun _ h => by cases h) ?_ ?_
  · exact Exists.intro [] (And.intro rfl (And.intro trivial (And.intro rfl (And.intro (And.intro rfl (And.intro rfl rfl)) (And.intro rfl (And.intro rfl trivial))))))
  intro n v8 h
  rw [g_IndexFunc_Lot_s1_L1.eq_2] at h
  refine PS.ite h (fun h9 h => ?_) (fun h9 h => ?_)
  · refine OB.grd h (fun h10 h => ?_)
    refine EX.get h (fun x11 h12 h => ?_)
    refine CK.call false [] h (fun _ h => con_i_lotsOf_c1 h) (And.intro (And.intro rfl (And.intro rfl (And.intro rfl (And.intro rfl (And.intro rfl trivial))))) (And.intro (And.intro rfl trivial) (And.intro (And.intro rfl trivial) trivial))) trivial rfl (fun _ => rfl) (fun _ => Or.inl rfl) (fun y13 h14 h => ?_)
    refine PS.ite h (fun h15 h => ?_) (fun h15 h => ?_)
    · exact lf1 h fun e0 => Exists.intro [] (And.intro rfl (And.intro trivial e0))
    refine NX.next h ?_
    exact Exists.intro [] (And.intro rfl (And.intro trivial (And.intro rfl (And.intro (And.intro rfl (And.intro rfl rfl)) (And.intro rfl (And.intro rfl trivial))))))
  exact lf1 h fun e0 => Exists.intro [] (And.intro rfl (And.intro trivial e0))
theorem con_g_DeleteFunc_Lot {a0 : (List MLot)} {a1_0_0 : Int} {a1_1_0 : Int} {r0 : (List MLot)} (h : g_DeleteFunc_Lot a0 a1_0_0 a1_1_0 = some r0) : Con Tryz.prog 191 [.own 0, .fn (.func 193) [] [.rp [.i .i64 a1_0_0], .rp [.i .i64 a1_1_0]]] [.arr 5 (List.map MLot.av a0)] (.own 1) [none, some (.arr 5 (List.map MLot.av r0))] := by
  refine con_of_awpF hT mixed (fn := Tryz.f191) Tryz.func191 rfl rfl ?_
  unfold g_DeleteFunc_Lot at h
  refine CK.call false [] h (fun _ h => con_g_IndexFunc_Lot_s1 h) (And.intro rfl (And.intro (And.intro rfl (And.intro trivial (And.intro (And.intro rfl trivial) (And.intro (And.intro rfl trivial) trivial)))) trivial)) trivial rfl (fun _ => rfl) (fun _ => Or.inr (Flat.mk rfl trivial)) (fun y1 h2 h => ?_)
  refine PS.ite h (fun h3 h => ?_) (fun h3 h => ?_)
  · exact lf1 h fun e0 => Exists.intro [.id 0, .id 0] (And.intro rfl (And.intro (And.intro trivial (And.intro (mpe e0) trivial)) trivial))
  refine LP.fuel (g := g_DeleteFunc_Lot_L1 a1_0_0 a1_1_0 _) (fun (v14, v15, v16) => ⟨[(0, .own 0), (1, .fn (.func 193) [] [.rp [.i .i64 a1_0_0], .rp [.i .i64 a1_1_0]]), (5, .i .i64 v15), (6, .i .i64 v16)], [some (.arr 5 (List.map MLot.av v14))]⟩) h (fun _ h => by cases h) ?_ ?_
  · exact Exists.intro [.id 0] (And.intro rfl (And.intro (And.intro rfl trivial) (And.intro trivial (And.intro (And.intro rfl (And.intro rfl rfl)) (And.intro rfl (And.intro rfl trivial))))))
  intro n v h
  obtain ⟨v14, v15, v16⟩ := v
  rw [g_DeleteFunc_Lot_L1.eq_2] at h
  refine HY.mk (fun _ => ?_)
  refine PS.ite h (fun h17 h => ?_) (fun h17 h => ?_)
  · refine OB.grd h (fun h18 h => ?_)
    refine EX.get h (fun x19 h20 h => ?_)
    refine CK.call false [] h (fun _ h => con_i_lotsOf_c1 h) (And.intro (And.intro rfl (And.intro rfl (And.intro rfl (And.intro rfl (And.intro rfl trivial))))) (And.intro (And.intro rfl trivial) (And.intro (And.intro rfl trivial) trivial))) trivial rfl (fun _ => rfl) (fun _ => Or.inl rfl) (fun y21 h22 h => ?_)
    refine PS.ite h (fun h23 h => ?_) (fun h23 h => ?_)
    · refine OB.grd h (fun h24 h => ?_)
      refine EX.get h (fun x25 h26 h => ?_)
      refine RN.to (List.map MLot.av (List.set v14 (Int.toNat v15) x19)) (set_map rfl) ?_
      refine NX.next h ?_
      exact Exists.intro [.id 0] (And.intro rfl (And.intro (And.intro rfl trivial) (And.intro trivial (And.intro (And.intro rfl (And.intro rfl rfl)) (And.intro rfl (And.intro rfl trivial))))))
    refine NX.next h ?_
    exact Exists.intro [.id 0] (And.intro rfl (And.intro (And.intro rfl trivial) (And.intro trivial (And.intro (And.intro rfl (And.intro rfl rfl)) (And.intro rfl (And.intro rfl trivial))))))
  refine OB.grd h (fun h29 h => ?_)
  refine OB.grd h (fun h30 h => ?_)
  refine RN.to (List.map MLot.av (List.take (Int.toNat v15) v14 ++ List.replicate ((List.length (List.map MLot.av v14)) - (Int.toNat v15)) (MLot.mk (0 : Int) (0 : Int) (0 : Int) (0 : Int) (0 : Int)) ++ List.drop ((Int.toNat v15) + ((List.length (List.map MLot.av v14)) - (Int.toNat v15))) v14)) (clear_map rfl) ?_
  refine OB.grd h (fun h31 h => ?_)
  exact lf1 h fun e0 => Exists.intro [.id 0, .pre 0 ((Int.toNat v15) - 0)] (And.intro rfl (And.intro (And.intro trivial (And.intro (And.intro (by simp only [List.length_map, List.length_append, List.length_take, List.length_drop, List.length_replicate, List.length_set, ln] at *; omega) (mpt e0)) trivial)) rfl))
theorem con_i_lotsOf {a0 : (List MLot)} {a1 : Int} {a2 : Int} {r0 : (List MLot)} (h : i_lotsOf a0 a1 a2 = some r0) : Con Tryz.prog 177 [.sl 5 (List.map MLot.av a0), .i .i64 a1, .i .i64 a2] [] (.own 0) [some (.arr 5 (List.map MLot.av r0))] := by
  refine con_of_awpF hT mixed (fn := Tryz.f177) Tryz.func177 rfl rfl ?_
  unfold i_lotsOf at h
  refine CK.call false [] h (fun _ h => con_g_Clone_Lot h) (And.intro rfl trivial) trivial rfl (fun _ => rfl) (fun _ => Or.inl rfl) (fun y1 h2 h => ?_)
  refine RN.mk ?_
  refine CK.call false [64] h (fun _ h => con_g_DeleteFunc_Lot h) (And.intro rfl (And.intro (And.intro rfl (And.intro trivial (And.intro (And.intro rfl trivial) (And.intro (And.intro rfl trivial) trivial)))) trivial)) (And.intro rfl trivial) rfl (fun _ => rfl) (fun _ => Or.inr (Flat.mk rfl (And.intro trivial (And.intro (FlatO.map fun _ => rfl) trivial)))) (fun y3 h4 h => ?_)
  refine RN.mk ?_
  exact lf1 h fun e0 => Exists.intro [.id 96] (And.intro rfl (And.intro (And.intro (mpe e0) trivial) trivial))
theorem con_i_sumLots {a0 : (List MLot)} {r0 : Int} {r1 : Int} (h : i_sumLots a0 = some (r0, r1)) : Con Tryz.prog 176 [.sl 5 (List.map MLot.av a0)] [] (.tup [.i .i64 r0, .i .i64 r1]) [] := by
  refine con_of_awpF hT mixed (fn := Tryz.f176) Tryz.func176 rfl rfl ?_
  unfold i_sumLots at h
  refine HY.mk (fun _ => ?_)
  refine LP.fuel (g := i_sumLots_L1 a0 _) (fun (v5, v6, v7) => ⟨[(4, .i .i64 v5), (5, .i .i64 v6), (8, .sl 5 (List.map MLot.av a0)), (9, .i .i64 ((ln (List.map MLot.av a0)))), (10, .i .i64 v7)], []⟩) h (fun _ h => by cases h) ?_ ?_
  · exact Exists.intro [] (And.intro rfl (And.intro trivial (And.intro rfl (And.intro rfl (And.intro rfl (And.intro rfl (And.intro rfl trivial)))))))
  intro n v h
  obtain ⟨v5, v6, v7⟩ := v
  rw [i_sumLots_L1.eq_2] at h
  refine PS.ite h (fun h8 h => ?_) (fun h8 h => ?_)
  · refine OB.grd h (fun h9 h => ?_)
    refine EX.get h (fun x10 h11 h => ?_)
    refine NX.next h ?_
    exact Exists.intro [] (And.intro rfl (And.intro trivial (And.intro rfl (And.intro rfl (And.intro rfl (And.intro rfl (And.intro rfl trivial)))))))
  exact lf2 h fun e0 e1 => Exists.intro [] (And.intro rfl (And.intro trivial (And.intro e0 (And.intro e1 trivial))))
theorem con_i_LotsOk_c1 {a0 : MLot} {a1_0 : (List MLot)} {r0 : Bool} (h : i_LotsOk_c1 a0 a1_0 = some r0) : Con Tryz.prog 175 [.agg [.i .i64 a0.Account, .i .i64 a0.Instr, .i .i64 a0.No, .i .i64 a0.Qty, .i .i64 a0.Cost], .rp [.sl 5 (List.map MLot.av a1_0)]] [] (.p (r0 = true)) [] := by
  refine con_of_awpF hT mixed (fn := Tryz.f175) Tryz.func175 rfl rfl ?_
  unfold i_LotsOk_c1 at h
  refine CK.call false [] h (fun _ h => con_i_lotsOf h) (And.intro rfl (And.intro rfl (And.intro rfl trivial))) trivial rfl (fun _ => rfl) (fun _ => Or.inl rfl) (fun y1 h2 h => ?_)
  refine RN.mk ?_
  refine CK.call false [] h (fun _ h => con_i_sumLots h) (And.intro rfl trivial) trivial rfl (fun _ => rfl) (fun _ => Or.inr (Flat.mk rfl trivial)) (fun y3 h4 h => ?_)
  refine CK.call false [] h (fun _ h => con_i_AmountOk h) (And.intro rfl trivial) trivial rfl (fun _ => rfl) (fun _ => Or.inl rfl) (fun y5 h6 h => ?_)
  refine PS.ite h (fun h7 h => ?_) (fun h7 h => ?_)
  · exact lf1 h fun e0 => Exists.intro [] (And.intro rfl (And.intro trivial (be e0)))
  refine CK.call false [] h (fun _ h => con_i_AmountOk h) (And.intro rfl trivial) trivial rfl (fun _ => rfl) (fun _ => Or.inl rfl) (fun y8 h9 h => ?_)
  exact lf1 h fun e0 => Exists.intro [] (And.intro rfl (And.intro trivial (pqe e0)))
theorem con_g_IndexFunc_Lot {a0 : (List MLot)} {a1_0_0 : (List MLot)} {r0 : Int} (h : g_IndexFunc_Lot a0 a1_0_0 = some r0) : Con Tryz.prog 190 [.sl 5 (List.map MLot.av a0), .fn (.func 175) [] [.rp [.sl 5 (List.map MLot.av a1_0_0)]]] [] (.i .i64 r0) [] := by
  refine con_of_awpF hT mixed (fn := Tryz.f190) Tryz.func190 rfl rfl ?_
  unfold g_IndexFunc_Lot at h
  refine HY.mk (fun _ => ?_)
  refine LP.fuel (g := g_IndexFunc_Lot_L1 a0 a1_0_0 _) (fun v8 => ⟨[(0, .sl 5 (List.map MLot.av a0)), (1, .fn (.func 175) [] [.rp [.sl 5 (List.map MLot.av a1_0_0)]]), (7, .i .i64 ((ln (List.map MLot.av a0)))), (8, .i .i64 v8)], []⟩) h (fun _ h => by cases h) ?_ ?_
  · exact Exists.intro [] (And.intro rfl (And.intro trivial (And.intro rfl (And.intro (And.intro rfl (And.intro rfl rfl)) (And.intro rfl (And.intro rfl trivial))))))
  intro n v8 h
  rw [g_IndexFunc_Lot_L1.eq_2] at h
  refine PS.ite h (fun h9 h => ?_) (fun h9 h => ?_)
  · refine OB.grd h (fun h10 h => ?_)
    refine EX.get h (fun x11 h12 h => ?_)
    refine CK.call false [] h (fun _ h => con_i_LotsOk_c1 h) (And.intro (And.intro rfl (And.intro rfl (And.intro rfl (And.intro rfl (And.intro rfl trivial))))) (And.intro (And.intro rfl trivial) trivial)) trivial rfl (fun _ => rfl) (fun _ => Or.inl rfl) (fun y13 h14 h => ?_)
    refine PS.ite h (fun h15 h => ?_) (fun h15 h => ?_)
    · exact lf1 h fun e0 => Exists.intro [] (And.intro rfl (And.intro trivial e0))
    refine NX.next h ?_
    exact Exists.intro [] (And.intro rfl (And.intro trivial (And.intro rfl (And.intro (And.intro rfl (And.intro rfl rfl)) (And.intro rfl (And.intro rfl trivial))))))
  exact lf1 h fun e0 => Exists.intro [] (And.intro rfl (And.intro trivial e0))
theorem con_g_ContainsFunc_Lot {a0 : (List MLot)} {a1_0_0 : (List MLot)} {r0 : Bool} (h : g_ContainsFunc_Lot a0 a1_0_0 = some r0) : Con Tryz.prog 174 [.sl 5 (List.map MLot.av a0), .fn (.func 175) [] [.rp [.sl 5 (List.map MLot.av a1_0_0)]]] [] (.p (r0 = true)) [] := by
  refine con_of_awpF hT mixed (fn := Tryz.f174) Tryz.func174 rfl rfl ?_
  unfold g_ContainsFunc_Lot at h
  refine CK.call false [] h (fun _ h => con_g_IndexFunc_Lot h) (And.intro rfl (And.intro (And.intro rfl (And.intro trivial (And.intro (And.intro rfl trivial) trivial))) trivial)) trivial rfl (fun _ => rfl) (fun _ => Or.inl rfl) (fun y1 h2 h => ?_)
  exact lf1 h fun e0 => Exists.intro [] (And.intro rfl (And.intro trivial (pqe e0)))
theorem con_i_LotsOk {a0 : (List MLot)} {r0 : Bool} (h : i_LotsOk a0 = some r0) : Con Tryz.prog 138 [.sl 5 (List.map MLot.av a0)] [] (.p (r0 = true)) [] := by
  refine con_of_awpF hT mixed (fn := Tryz.f138) Tryz.func138 rfl rfl ?_
  unfold i_LotsOk at h
  refine HY.mk (fun _ => ?_)
  refine LP.fuel (g := i_LotsOk_L1 a0 _) (fun v15 => ⟨[(1, .ptr 0 0), (5, .sl 5 (List.map MLot.av a0)), (6, .i .i64 ((ln (List.map MLot.av a0)))), (7, .i .i64 v15)], [some (.box [.sl 5 (List.map MLot.av a0)])]⟩) h (fun _ h => by cases h) ?_ ?_
  · exact Exists.intro [.id 0] (And.intro rfl (And.intro (And.intro (And.intro rfl trivial) trivial) (And.intro trivial (And.intro rfl (And.intro rfl (And.intro rfl trivial))))))
  intro n v15 h
  rw [i_LotsOk_L1.eq_2] at h
  refine PS.ite h (fun h16 h => ?_) (fun h16 h => ?_)
  · refine OB.grd h (fun h17 h => ?_)
    refine EX.get h (fun x18 h19 h => ?_)
    refine CK.call false [] h (fun _ h => con_i_lotForm h) (And.intro (And.intro rfl (And.intro rfl (And.intro rfl (And.intro rfl (And.intro rfl trivial))))) trivial) trivial rfl (fun _ => rfl) (fun _ => Or.inl rfl) (fun y20 h21 h => ?_)
    refine PS.ite h (fun h22 h => ?_) (fun h22 h => ?_)
    · refine PS.pos h22 ?_
      iterate 3 refine PS.pos h22 ?_
      refine OB.mk (by kernel_rfl) ?_
      exact lf1 h fun e0 => Exists.intro [] (And.intro rfl (And.intro trivial (be e0)))
    refine PS.neg h22 ?_
    refine PS.neg h22 ?_
    refine PS.ite h (fun h23 h => ?_) (fun h23 h => ?_)
    · refine PS.pos h23 ?_
      refine PS.pos h23 ?_
      refine PS.pos h23 ?_
      refine OB.grd h (fun h24 h => ?_)
      refine EX.get h (fun x25 h26 h => ?_)
      iterate 3 refine PS.pos h23 ?_
      refine CK.call false [] h (fun _ h => con_i_lotBefore h) (And.intro (And.intro rfl (And.intro rfl (And.intro rfl (And.intro rfl (And.intro rfl trivial))))) (And.intro (And.intro rfl (And.intro rfl (And.intro rfl (And.intro rfl (And.intro rfl trivial))))) trivial)) trivial rfl (fun _ => rfl) (fun _ => Or.inl rfl) (fun y27 h28 h => ?_)
      refine PS.pos h23 ?_
      refine PS.neg h22 ?_
      refine PS.pos h23 ?_
      refine PS.neg h22 ?_
      refine OB.mk (by kernel_rfl) ?_
      refine PS.ite h (fun h29 h => ?_) (fun h29 h => ?_)
      · exact lf1 h fun e0 => Exists.intro [] (And.intro rfl (And.intro trivial (be e0)))
      refine NX.next h ?_
      exact Exists.intro [.id 0] (And.intro rfl (And.intro (And.intro (And.intro rfl trivial) trivial) (And.intro trivial (And.intro rfl (And.intro rfl (And.intro rfl trivial))))))
    iterate 7 refine PS.neg h23 ?_
    refine PS.neg h22 ?_
    refine PS.neg h23 ?_
    refine PS.neg h22 ?_
    refine OB.mk (by kernel_rfl) ?_
    refine NX.next h ?_
    exact Exists.intro [.id 0] (And.intro rfl (And.intro (And.intro (And.intro rfl trivial) trivial) (And.intro trivial (And.intro rfl (And.intro rfl (And.intro rfl trivial))))))
  refine HY.mk (fun _ => ?_)
  refine PS.ite h (fun h30 h => ?_) (fun h30 h => ?_)
  · exact lf1 h fun e0 => Exists.intro [] (And.intro rfl (And.intro trivial (be e0)))
  refine CK.call false [] h (fun _ h => con_g_ContainsFunc_Lot h) (And.intro rfl (And.intro (And.intro rfl (And.intro trivial (And.intro (And.intro rfl trivial) trivial))) trivial)) trivial rfl (fun _ => rfl) (fun _ => Or.inr (Flat.mk rfl trivial)) (fun y31 h32 h => ?_)
  exact lf1 h fun e0 => Exists.intro [] (And.intro rfl (And.intro trivial (pqe e0)))
theorem con_i_TradesOk {a0 : (List MTrade)} {r0 : Bool} (h : i_TradesOk a0 = some r0) : Con Tryz.prog 139 [.sl 8 (List.map MTrade.av a0)] [] (.p (r0 = true)) [] := by
  refine con_of_awpF hT mixed (fn := Tryz.f139) Tryz.func139 rfl rfl ?_
  unfold i_TradesOk at h
  refine HY.mk (fun _ => ?_)
  refine LP.fuel (g := i_TradesOk_L1 a0 _) (fun v35 => ⟨[(0, .sl 8 (List.map MTrade.av a0)), (5, .sl 8 (List.map MTrade.av a0)), (6, .i .i64 ((ln (List.map MTrade.av a0)))), (7, .i .i64 v35)], []⟩) h (fun _ h => by cases h) ?_ ?_
  · exact Exists.intro [] (And.intro rfl (And.intro trivial (And.intro rfl (And.intro rfl (And.intro rfl (And.intro rfl trivial))))))
  intro n v35 h
  rw [i_TradesOk_L1.eq_2] at h
  refine PS.ite h (fun h36 h => ?_) (fun h36 h => ?_)
  · refine OB.grd h (fun h37 h => ?_)
    refine EX.get h (fun x38 h39 h => ?_)
    refine CK.call false [] h (fun _ h => con_i_isNo h) (And.intro rfl trivial) trivial rfl (fun _ => rfl) (fun _ => Or.inl rfl) (fun y40 h41 h => ?_)
    refine PS.ite h (fun h42 h => ?_) (fun h42 h => ?_)
    · exact lf1 h fun e0 => Exists.intro [] (And.intro rfl (And.intro trivial (be e0)))
    refine CK.call false [] h (fun _ h => con_i_isNo h) (And.intro rfl trivial) trivial rfl (fun _ => rfl) (fun _ => Or.inl rfl) (fun y43 h44 h => ?_)
    refine PS.ite h (fun h45 h => ?_) (fun h45 h => ?_)
    · exact lf1 h fun e0 => Exists.intro [] (And.intro rfl (And.intro trivial (be e0)))
    refine CK.call false [] h (fun _ h => con_i_isNo h) (And.intro rfl trivial) trivial rfl (fun _ => rfl) (fun _ => Or.inl rfl) (fun y46 h47 h => ?_)
    refine PS.ite h (fun h48 h => ?_) (fun h48 h => ?_)
    · exact lf1 h fun e0 => Exists.intro [] (And.intro rfl (And.intro trivial (be e0)))
    refine CK.call false [] h (fun _ h => con_i_isNo h) (And.intro rfl trivial) trivial rfl (fun _ => rfl) (fun _ => Or.inl rfl) (fun y49 h50 h => ?_)
    refine PS.ite h (fun h51 h => ?_) (fun h51 h => ?_)
    · exact lf1 h fun e0 => Exists.intro [] (And.intro rfl (And.intro trivial (be e0)))
    refine CK.call false [] h (fun _ h => con_i_isNo h) (And.intro rfl trivial) trivial rfl (fun _ => rfl) (fun _ => Or.inl rfl) (fun y52 h53 h => ?_)
    refine PS.ite h (fun h54 h => ?_) (fun h54 h => ?_)
    · exact lf1 h fun e0 => Exists.intro [] (And.intro rfl (And.intro trivial (be e0)))
    refine PS.ite h (fun h55 h => ?_) (fun h55 h => ?_)
    · exact lf1 h fun e0 => Exists.intro [] (And.intro rfl (And.intro trivial (be e0)))
    refine CK.call false [] h (fun _ h => con_i_in h) (And.intro rfl (And.intro rfl (And.intro rfl trivial))) trivial rfl (fun _ => rfl) (fun _ => Or.inl rfl) (fun y56 h57 h => ?_)
    refine PS.ite h (fun h58 h => ?_) (fun h58 h => ?_)
    · refine PS.pos h58 ?_
      iterate 3 refine PS.pos h58 ?_
      refine OB.mk (by kernel_rfl) ?_
      exact lf1 h fun e0 => Exists.intro [] (And.intro rfl (And.intro trivial (be e0)))
    refine PS.neg h58 ?_
    refine PS.neg h58 ?_
    refine CK.call false [] h (fun _ h => con_i_in h) (And.intro rfl (And.intro rfl (And.intro rfl trivial))) trivial rfl (fun _ => rfl) (fun _ => Or.inl rfl) (fun y59 h60 h => ?_)
    refine PS.neg h58 ?_
    refine PS.neg h58 ?_
    refine PS.ite h (fun h61 h => ?_) (fun h61 h => ?_)
    · refine PS.pos h61 ?_
      iterate 3 refine PS.pos h61 ?_
      refine OB.mk (by kernel_rfl) ?_
      exact lf1 h fun e0 => Exists.intro [] (And.intro rfl (And.intro trivial (be e0)))
    refine PS.neg h61 ?_
    refine PS.neg h61 ?_
    refine CK.call false [] h (fun _ h => con_i_in h) (And.intro rfl (And.intro rfl (And.intro rfl trivial))) trivial rfl (fun _ => rfl) (fun _ => Or.inl rfl) (fun y62 h63 h => ?_)
    refine PS.neg h61 ?_
    refine PS.neg h61 ?_
    refine PS.ite h (fun h64 h => ?_) (fun h64 h => ?_)
    · refine PS.pos h64 ?_
      iterate 3 refine PS.pos h64 ?_
      refine OB.mk (by kernel_rfl) ?_
      exact lf1 h fun e0 => Exists.intro [] (And.intro rfl (And.intro trivial (be e0)))
    refine PS.neg h64 ?_
    refine PS.neg h64 ?_
    refine PS.ite h (fun h65 h => ?_) (fun h65 h => ?_)
    · refine PS.pos h65 ?_
      refine PS.pos h65 ?_
      refine PS.pos h65 ?_
      refine OB.grd h (fun h66 h => ?_)
      refine EX.get h (fun x67 h68 h => ?_)
      iterate 5 refine PS.pos h65 ?_
      refine PS.neg h64 ?_
      refine PS.pos h65 ?_
      refine PS.neg h64 ?_
      refine OB.mk (by kernel_rfl) ?_
      refine PS.ite h (fun h69 h => ?_) (fun h69 h => ?_)
      · exact lf1 h fun e0 => Exists.intro [] (And.intro rfl (And.intro trivial (be e0)))
      refine NX.next h ?_
      exact Exists.intro [] (And.intro rfl (And.intro trivial (And.intro rfl (And.intro rfl (And.intro rfl (And.intro rfl trivial))))))
    iterate 8 refine PS.neg h65 ?_
    refine PS.neg h64 ?_
    refine PS.neg h65 ?_
    refine PS.neg h64 ?_
    refine OB.mk (by kernel_rfl) ?_
    refine NX.next h ?_
    exact Exists.intro [] (And.intro rfl (And.intro trivial (And.intro rfl (And.intro rfl (And.intro rfl (And.intro rfl trivial))))))
  refine HY.mk (fun _ => ?_)
  exact lf1 h fun e0 => Exists.intro [] (And.intro rfl (And.intro trivial (pqe e0)))
theorem con_i_accountKind {a0 : (List MAccount)} {a1 : Int} {r0 : Int} (h : i_accountKind a0 a1 = some r0) : Con Tryz.prog 178 [.sl 2 (List.map MAccount.av a0), .i .i64 a1] [] (.i .i64 r0) [] := by
  refine con_of_awpF hT mixed (fn := Tryz.f178) Tryz.func178 rfl rfl ?_
  unfold i_accountKind at h
  refine HY.mk (fun _ => ?_)
  refine LP.fuel (g := i_accountKind_L1 a0 a1 _) (fun v6 => ⟨[(1, .i .i64 a1), (7, .sl 2 (List.map MAccount.av a0)), (8, .i .i64 ((ln (List.map MAccount.av a0)))), (9, .i .i64 v6)], []⟩) h (fun _ h => by cases h) ?_ ?_
  · exact Exists.intro [] (And.intro rfl (And.intro trivial (And.intro rfl (And.intro rfl (And.intro rfl (And.intro rfl trivial))))))
  intro n v6 h
  rw [i_accountKind_L1.eq_2] at h
  refine PS.ite h (fun h7 h => ?_) (fun h7 h => ?_)
  · refine OB.grd h (fun h8 h => ?_)
    refine EX.get h (fun x9 h10 h => ?_)
    refine PS.ite h (fun h11 h => ?_) (fun h11 h => ?_)
    · exact lf1 h fun e0 => Exists.intro [] (And.intro rfl (And.intro trivial e0))
    refine NX.next h ?_
    exact Exists.intro [] (And.intro rfl (And.intro trivial (And.intro rfl (And.intro rfl (And.intro rfl (And.intro rfl trivial))))))
  exact lf1 h fun e0 => Exists.intro [] (And.intro rfl (And.intro trivial e0))
theorem con_i_instrKind {a0 : (List MInstr)} {a1 : Int} {r0 : Int} (h : i_instrKind a0 a1 = some r0) : Con Tryz.prog 179 [.sl 2 (List.map MInstr.av a0), .i .i64 a1] [] (.i .i64 r0) [] := by
  refine con_of_awpF hT mixed (fn := Tryz.f179) Tryz.func179 rfl rfl ?_
  unfold i_instrKind at h
  refine HY.mk (fun _ => ?_)
  refine LP.fuel (g := i_instrKind_L1 a0 a1 _) (fun v6 => ⟨[(1, .i .i64 a1), (7, .sl 2 (List.map MInstr.av a0)), (8, .i .i64 ((ln (List.map MInstr.av a0)))), (9, .i .i64 v6)], []⟩) h (fun _ h => by cases h) ?_ ?_
  · exact Exists.intro [] (And.intro rfl (And.intro trivial (And.intro rfl (And.intro rfl (And.intro rfl (And.intro rfl trivial))))))
  intro n v6 h
  rw [i_instrKind_L1.eq_2] at h
  refine PS.ite h (fun h7 h => ?_) (fun h7 h => ?_)
  · refine OB.grd h (fun h8 h => ?_)
    refine EX.get h (fun x9 h10 h => ?_)
    refine PS.ite h (fun h11 h => ?_) (fun h11 h => ?_)
    · exact lf1 h fun e0 => Exists.intro [] (And.intro rfl (And.intro trivial e0))
    refine NX.next h ?_
    exact Exists.intro [] (And.intro rfl (And.intro trivial (And.intro rfl (And.intro rfl (And.intro rfl (And.intro rfl trivial))))))
  exact lf1 h fun e0 => Exists.intro [] (And.intro rfl (And.intro trivial e0))
theorem con_i_balsSum {a0 : (List MBal)} {a1 : Int} {r0 : Int} (h : i_balsSum a0 a1 = some r0) : Con Tryz.prog 180 [.sl 3 (List.map MBal.av a0), .i .i64 a1] [] (.i .i64 r0) [] := by
  refine con_of_awpF hT mixed (fn := Tryz.f180) Tryz.func180 rfl rfl ?_
  unfold i_balsSum at h
  refine HY.mk (fun _ => ?_)
  refine LP.fuel (g := i_balsSum_L1 a0 a1 _) (fun (v6, v7) => ⟨[(1, .i .i64 a1), (5, .i .i64 v6), (8, .sl 3 (List.map MBal.av a0)), (9, .i .i64 ((ln (List.map MBal.av a0)))), (10, .i .i64 v7)], []⟩) h (fun _ h => by cases h) ?_ ?_
  · exact Exists.intro [] (And.intro rfl (And.intro trivial (And.intro rfl (And.intro rfl (And.intro rfl (And.intro rfl (And.intro rfl trivial)))))))
  intro n v h
  obtain ⟨v6, v7⟩ := v
  rw [i_balsSum_L1.eq_2] at h
  refine PS.ite h (fun h8 h => ?_) (fun h8 h => ?_)
  · refine OB.grd h (fun h9 h => ?_)
    refine EX.get h (fun x10 h11 h => ?_)
    refine PS.ite h (fun h12 h => ?_) (fun h12 h => ?_)
    · refine NX.next h ?_
      exact Exists.intro [] (And.intro rfl (And.intro trivial (And.intro rfl (And.intro rfl (And.intro rfl (And.intro rfl (And.intro rfl trivial)))))))
    refine NX.next h ?_
    exact Exists.intro [] (And.intro rfl (And.intro trivial (And.intro rfl (And.intro rfl (And.intro rfl (And.intro rfl (And.intro rfl trivial)))))))
  exact lf1 h fun e0 => Exists.intro [] (And.intro rfl (And.intro trivial e0))
theorem con_i_balsRight {a0 : MBooks} {r0 : Bool} (h : i_balsRight a0 = some r0) : Con Tryz.prog 140 [.agg [.sl 2 (List.map MAccount.av a0.Accounts), .sl 2 (List.map MInstr.av a0.Instrs), .sl 3 (List.map MBal.av a0.Bals), .sl 5 (List.map MLot.av a0.Lots), .sl 8 (List.map MTrade.av a0.Trades), .i .i64 a0.Lot]] [] (.p (r0 = true)) [] := by
  refine con_of_awpF hT mixed (fn := Tryz.f140) Tryz.func140 rfl rfl ?_
  unfold i_balsRight at h
  refine HY.mk (fun _ => ?_)
  refine LP.fuel (g := i_balsRight_L1 a0 _) (fun v19 => ⟨[(1, .ptr 0 0), (7, .sl 3 (List.map MBal.av a0.Bals)), (8, .i .i64 ((ln (List.map MBal.av a0.Bals)))), (9, .i .i64 v19)], [some (.box [.sl 2 (List.map MAccount.av a0.Accounts), .sl 2 (List.map MInstr.av a0.Instrs), .sl 3 (List.map MBal.av a0.Bals), .sl 5 (List.map MLot.av a0.Lots), .sl 8 (List.map MTrade.av a0.Trades), .i .i64 a0.Lot])]⟩) h (fun _ h => by cases h) ?_ ?_
  · exact Exists.intro [.id 0] (And.intro rfl (And.intro (And.intro (And.intro rfl (And.intro rfl (And.intro rfl (And.intro rfl (And.intro rfl (And.intro rfl trivial)))))) trivial) (And.intro trivial (And.intro rfl (And.intro rfl (And.intro rfl trivial))))))
  intro n v19 h
  rw [i_balsRight_L1.eq_2] at h
  refine PS.ite h (fun h20 h => ?_) (fun h20 h => ?_)
  · refine OB.grd h (fun h21 h => ?_)
    refine EX.get h (fun x22 h23 h => ?_)
    refine CK.call false [] h (fun _ h => con_i_accountKind h) (And.intro rfl (And.intro rfl trivial)) trivial rfl (fun _ => rfl) (fun _ => Or.inl rfl) (fun y24 h25 h => ?_)
    refine PS.ite h (fun h26 h => ?_) (fun h26 h => ?_)
    · exact lf1 h fun e0 => Exists.intro [] (And.intro rfl (And.intro trivial (be e0)))
    refine CK.call false [] h (fun _ h => con_i_instrKind h) (And.intro rfl (And.intro rfl trivial)) trivial rfl (fun _ => rfl) (fun _ => Or.inl rfl) (fun y27 h28 h => ?_)
    refine PS.ite h (fun h29 h => ?_) (fun h29 h => ?_)
    · exact lf1 h fun e0 => Exists.intro [] (And.intro rfl (And.intro trivial (be e0)))
    refine PS.ite h (fun h30 h => ?_) (fun h30 h => ?_)
    · refine PS.ite h (fun h31 h => ?_) (fun h31 h => ?_)
      · exact lf1 h fun e0 => Exists.intro [] (And.intro rfl (And.intro trivial (be e0)))
      refine CK.call false [] h (fun _ h => con_i_balsSum h) (And.intro rfl (And.intro rfl trivial)) trivial rfl (fun _ => rfl) (fun _ => Or.inl rfl) (fun y32 h33 h => ?_)
      refine PS.ite h (fun h34 h => ?_) (fun h34 h => ?_)
      · exact lf1 h fun e0 => Exists.intro [] (And.intro rfl (And.intro trivial (be e0)))
      refine NX.next h ?_
      exact Exists.intro [.id 0] (And.intro rfl (And.intro (And.intro (And.intro rfl (And.intro rfl (And.intro rfl (And.intro rfl (And.intro rfl (And.intro rfl trivial)))))) trivial) (And.intro trivial (And.intro rfl (And.intro rfl (And.intro rfl trivial))))))
    refine CK.call false [] h (fun _ h => con_i_balsSum h) (And.intro rfl (And.intro rfl trivial)) trivial rfl (fun _ => rfl) (fun _ => Or.inl rfl) (fun y35 h36 h => ?_)
    refine PS.ite h (fun h37 h => ?_) (fun h37 h => ?_)
    · exact lf1 h fun e0 => Exists.intro [] (And.intro rfl (And.intro trivial (be e0)))
    refine NX.next h ?_
    exact Exists.intro [.id 0] (And.intro rfl (And.intro (And.intro (And.intro rfl (And.intro rfl (And.intro rfl (And.intro rfl (And.intro rfl (And.intro rfl trivial)))))) trivial) (And.intro trivial (And.intro rfl (And.intro rfl (And.intro rfl trivial))))))
  exact lf1 h fun e0 => Exists.intro [] (And.intro rfl (And.intro trivial (be e0)))
theorem con_i_balAt {a0 : (List MBal)} {a1 : Int} {a2 : Int} {r0 : Int} {r1 : Bool} (h : i_balAt a0 a1 a2 = some (r0, r1)) : Con Tryz.prog 195 [.sl 3 (List.map MBal.av a0), .i .i64 a1, .i .i64 a2] [] (.tup [.i .i64 r0, .p (r1 = true)]) [] := by
  refine con_of_awpF hT mixed (fn := Tryz.f195) Tryz.func195 rfl rfl ?_
  unfold i_balAt at h
  refine HY.mk (fun _ => ?_)
  refine LP.fuel (g := i_balAt_L1 a0 a1 a2 _) (fun v8 => ⟨[(0, .sl 3 (List.map MBal.av a0)), (1, .i .i64 a1), (2, .i .i64 a2), (11, .sl 3 (List.map MBal.av a0)), (12, .i .i64 ((ln (List.map MBal.av a0)))), (13, .i .i64 v8)], []⟩) h (fun _ h => by cases h) ?_ ?_
  · exact Exists.intro [] (And.intro rfl (And.intro trivial (And.intro rfl (And.intro rfl (And.intro rfl (And.intro rfl (And.intro rfl (And.intro rfl trivial))))))))
  intro n v8 h
  rw [i_balAt_L1.eq_2] at h
  refine PS.ite h (fun h9 h => ?_) (fun h9 h => ?_)
  · refine OB.grd h (fun h10 h => ?_)
    refine EX.get h (fun x11 h12 h => ?_)
    refine CK.call false [] h (fun _ h => con_i_byBoth h) (And.intro rfl (And.intro rfl (And.intro rfl (And.intro rfl trivial)))) trivial rfl (fun _ => rfl) (fun _ => Or.inl rfl) (fun y13 h14 h => ?_)
    refine PS.ite h (fun h15 h => ?_) (fun h15 h => ?_)
    · exact lf2 h fun e0 e1 => Exists.intro [] (And.intro rfl (And.intro trivial (And.intro e0 (And.intro (pqe e1) trivial))))
    refine NX.next h ?_
    exact Exists.intro [] (And.intro rfl (And.intro trivial (And.intro rfl (And.intro rfl (And.intro rfl (And.intro rfl (And.intro rfl (And.intro rfl trivial))))))))
  refine HY.mk (fun _ => ?_)
  exact lf2 h fun e0 e1 => Exists.intro [] (And.intro rfl (And.intro trivial (And.intro e0 (And.intro (be e1) trivial))))
theorem con_i_balOf {a0 : (List MBal)} {a1 : Int} {a2 : Int} {r0 : Int} (h : i_balOf a0 a1 a2 = some r0) : Con Tryz.prog 181 [.sl 3 (List.map MBal.av a0), .i .i64 a1, .i .i64 a2] [] (.i .i64 r0) [] := by
  refine con_of_awpF hT mixed (fn := Tryz.f181) Tryz.func181 rfl rfl ?_
  unfold i_balOf at h
  refine CK.call false [] h (fun _ h => con_i_balAt h) (And.intro rfl (And.intro rfl (And.intro rfl trivial))) trivial rfl (fun _ => rfl) (fun _ => Or.inl rfl) (fun y1 h2 h => ?_)
  refine PS.ite h (fun h3 h => ?_) (fun h3 h => ?_)
  · exact lf1 h fun e0 => Exists.intro [] (And.intro rfl (And.intro trivial e0))
  refine OB.grd h (fun h4 h => ?_)
  refine EX.get h (fun x5 h6 h => ?_)
  exact lf1 h fun e0 => Exists.intro [] (And.intro rfl (And.intro trivial e0))

end Go.Proofs.YtbknlijpkabcnaaGreat.K
