/- The seat: its functions in the shortened form. -/
import Derived.Test.YtopedkngffaplaaDoorBase
import Derived.Test.YtopedkngffaplaaDoorVdPe
set_option linter.all false
set_option linter.unusedVariables false
set_option linter.unusedSectionVars false
set_option linter.unusedSimpArgs false
section STrydDig
/- The digests of the functions, and how they are used. Printed by gendig.py. -/
namespace Go.Proofs.YtopedkngffaplaaDoor
open Go Go.Vi
set_option maxRecDepth 100000
@[simp] theorem T.cv2_106 : cvOf cfg.P 2 106 = some (.int .u64) := by rw [cfgP]; kernel_rfl
@[simp] theorem T.cv3_5 : cvOf cfg.P 3 5 = some (.int .u8) := by rw [cfgP]; kernel_rfl
@[simp] theorem T.cv3_61 : cvOf cfg.P 3 61 = some (.int .u64) := by rw [cfgP]; kernel_rfl
@[simp] theorem T.cv3_106 : cvOf cfg.P 3 106 = some (.int .u64) := by rw [cfgP]; kernel_rfl
@[simp] theorem T.cv5_3 : cvOf cfg.P 5 3 = some (.int .i64) := by rw [cfgP]; kernel_rfl
@[simp] theorem T.cv5_114 : cvOf cfg.P 5 114 = some (.int .u32) := by rw [cfgP]; kernel_rfl
@[simp] theorem T.cv21_3 : cvOf cfg.P 21 3 = some (.int .i64) := by rw [cfgP]; kernel_rfl
@[simp] theorem T.cv21_9 : cvOf cfg.P 21 9 = some .string := by rw [cfgP]; kernel_rfl
@[simp] theorem T.cv44_9 : cvOf cfg.P 44 9 = some .ofBytes := by rw [cfgP]; kernel_rfl
@[simp] theorem T.cv58_9 : cvOf cfg.P 58 9 = some .ofRunes := by rw [cfgP]; kernel_rfl
@[simp] theorem T.cv61_114 : cvOf cfg.P 61 114 = some (.int .u32) := by rw [cfgP]; kernel_rfl
@[simp] theorem T.cv106_5 : cvOf cfg.P 106 5 = some (.int .u8) := by rw [cfgP]; kernel_rfl
@[simp] theorem T.cv106_114 : cvOf cfg.P 106 114 = some (.int .u32) := by rw [cfgP]; kernel_rfl
@[simp] theorem T.cv114_5 : cvOf cfg.P 114 5 = some (.int .u8) := by rw [cfgP]; kernel_rfl
/- 3 augury/augurylaw5.SynsForms -/
def D.h3 : Hint := { nt := 100, keep := [0, 2, 3, 4, 5, 6, 7, 50, 58, 63, 64, 65], raws := [], cals := [], rs := [] }
noncomputable def D.x3_0 : List X := [(.bld 22 [0, 1, 2] [(.val (.str [])), (.val (.int .i64 0)), (.val (.int .i64 (-1)))]), (.bld 22 [0, 1, 2] [(.val (.str [119, 105, 100, 116, 104, 32, 50])), (.val (.int .i64 1)), (.val (.int .i64 (-1)))]), (.bld 22 [0, 1, 2] [(.val (.str [119, 105, 100, 116, 104, 32, 114, 49])), (.val (.int .i64 0)), (.val (.int .i64 6))]), (.bld 22 [0, 1, 2] [(.val (.str [119, 105, 100, 116, 104])), (.val (.int .i64 0)), (.val (.int .i64 5))]), (.bld 22 [0, 1, 2] [(.val (.str [119, 105, 110, 100, 111, 119, 32, 51, 32, 52])), (.val (.int .i64 0)), (.val (.int .i64 9))]), (.bld 22 [0, 1, 2] [(.val (.str [102, 117, 101, 108, 32, 57, 57, 57, 57, 57])), (.val (.int .i64 3)), (.val (.int .i64 (-1)))]), (.bld 22 [0, 1, 2] [(.val (.str [112, 117, 98, 108, 105, 99, 32, 114, 51])), (.val (.int .i64 4)), (.val (.int .i64 (-1)))]), (.bld 22 [0, 1, 2] [(.val (.str [115, 101, 99, 114, 101, 116, 32, 114, 52, 32, 50])), (.val (.int .i64 5)), (.val (.int .i64 (-1)))]), (.bld 22 [0, 1, 2] [(.val (.str [115, 101, 99, 114, 101, 116, 32, 114, 52])), (.val (.int .i64 0)), (.val (.int .i64 9))]), (.bld 22 [0, 1, 2] [(.val (.str [112, 117, 98, 108, 105, 99, 32, 97, 100, 100, 32, 50])), (.val (.int .i64 0)), (.val (.int .i64 7))]), (.bld 22 [0, 1, 2] [(.val (.str [112, 117, 98, 108, 105, 99, 32, 51])), (.val (.int .i64 0)), (.val (.int .i64 7))]), (.bld 22 [0, 1, 2] [(.val (.str [97, 58])), (.val (.int .i64 6)), (.val (.int .i64 (-1)))]), (.bld 22 [0, 1, 2] [(.val (.str [97])), (.val (.int .i64 0)), (.val (.int .i64 1))]), (.bld 22 [0, 1, 2] [(.val (.str [97, 32, 58, 32, 58])), (.val (.int .i64 0)), (.val (.int .i64 4))]), (.bld 22 [0, 1, 2] [(.val (.str [114, 49, 58])), (.val (.int .i64 0)), (.val (.int .i64 0))]), (.bld 22 [0, 1, 2] [(.val (.str [97, 100, 100, 58])), (.val (.int .i64 0)), (.val (.int .i64 3))]), (.bld 22 [0, 1, 2] [(.val (.str [58])), (.val (.int .i64 0)), (.val (.int .i64 0))]), (.bld 22 [0, 1, 2] [(.val (.str [53])), (.val (.int .i64 0)), (.val (.int .i64 0))]), (.bld 22 [0, 1, 2] [(.val (.str [97, 100, 100, 32, 114, 48, 44, 32, 114, 49, 44, 32, 50])), (.val (.int .i64 7)), (.val (.int .i64 (-1)))]), (.bld 22 [0, 1, 2] [(.val (.str [97, 100, 100, 32, 114, 48, 32, 114, 49, 44, 32, 50])), (.val (.int .i64 0)), (.val (.int .i64 7))]), (.bld 22 [0, 1, 2] [(.val (.str [97, 100, 100, 32, 49, 44, 32, 114, 49, 44, 32, 50])), (.val (.int .i64 0)), (.val (.int .i64 4))]), (.bld 22 [0, 1, 2] [(.val (.str [97, 100, 100, 32, 114, 52, 44, 32, 114, 49, 44, 32, 50])), (.val (.int .i64 0)), (.val (.int .i64 4))]), (.bld 22 [0, 1, 2] [(.val (.str [109, 111, 118, 32, 114, 48, 44, 32, 53])), (.val (.int .i64 7)), (.val (.int .i64 (-1)))]), (.bld 22 [0, 1, 2] [(.val (.str [109, 111, 118, 32, 114, 48, 44, 32, 120])), (.val (.int .i64 0)), (.val (.int .i64 8))]), (.bld 22 [0, 1, 2] [(.val (.str [108, 111, 97, 100, 32, 114, 48, 44, 32, 91, 114, 49, 32, 43, 32, 114, 50, 93])), (.val (.int .i64 7)), (.val (.int .i64 (-1)))]), (.bld 22 [0, 1, 2] [(.val (.str [108, 111, 97, 100, 32, 114, 48, 44, 32, 91, 114, 49, 93])), (.val (.int .i64 0)), (.val (.int .i64 12))]), (.bld 22 [0, 1, 2] [(.val (.str [115, 116, 111, 114, 101, 32, 91, 49, 32, 43, 32, 50, 93, 44, 32, 114, 51])), (.val (.int .i64 7)), (.val (.int .i64 (-1)))]), (.bld 22 [0, 1, 2] [(.val (.str [115, 116, 111, 114, 101, 32, 114, 51, 44, 32, 91, 49, 32, 43, 32, 50, 93])), (.val (.int .i64 0)), (.val (.int .i64 6))]), (.bld 22 [0, 1, 2] [(.val (.str [99, 109, 111, 118, 32, 114, 48, 44, 32, 49, 44, 32, 114, 50])), (.val (.int .i64 7)), (.val (.int .i64 (-1)))]), (.bld 22 [0, 1, 2] [(.val (.str [98, 114, 32, 108, 116, 32, 114, 48, 44, 32, 49, 44, 32, 120])), (.val (.int .i64 7)), (.val (.int .i64 (-1)))]), (.bld 22 [0, 1, 2] [(.val (.str [98, 114, 32, 109, 111, 118, 32, 114, 48, 44, 32, 49, 44, 32, 120])), (.val (.int .i64 0)), (.val (.int .i64 3))]), (.bld 22 [0, 1, 2] [(.val (.str [98, 114, 32, 108, 116, 32, 114, 48, 44, 32, 49, 44, 32, 108, 116])), (.val (.int .i64 0)), (.val (.int .i64 13))]), (.bld 22 [0, 1, 2] [(.val (.str [106, 109, 112, 32, 120])), (.val (.int .i64 7)), (.val (.int .i64 (-1)))]), (.bld 22 [0, 1, 2] [(.val (.str [106, 109, 112, 32, 51])), (.val (.int .i64 0)), (.val (.int .i64 4))]), (.bld 22 [0, 1, 2] [(.val (.str [99, 97, 108, 108, 32, 104, 97, 108, 116])), (.val (.int .i64 0)), (.val (.int .i64 5))]), (.bld 22 [0, 1, 2] [(.val (.str [105, 110, 100, 32, 51])), (.val (.int .i64 7)), (.val (.int .i64 (-1)))]), (.bld 22 [0, 1, 2] [(.val (.str [105, 110, 100, 32, 120])), (.val (.int .i64 0)), (.val (.int .i64 4))]), (.bld 22 [0, 1, 2] [(.val (.str [114, 101, 116])), (.val (.int .i64 7)), (.val (.int .i64 (-1)))]), (.bld 22 [0, 1, 2] [(.val (.str [114, 101, 116, 32, 49])), (.val (.int .i64 0)), (.val (.int .i64 4))]), (.bld 22 [0, 1, 2] [(.val (.str [104, 97, 108, 116, 59, 120])), (.val (.int .i64 7)), (.val (.int .i64 (-1)))]), (.bld 22 [0, 1, 2] [(.val (.str [102, 101, 110, 99, 101, 32, 44])), (.val (.int .i64 0)), (.val (.int .i64 6))]), (.bld 22 [0, 1, 2] [(.val (.str [195, 169])), (.val (.int .i64 0)), (.val (.int .i64 0))])]
noncomputable def D.s3 : S := 
  (.seq
    (.sets [(2, (.val (.bool false)))])
    (.seq
      (.seq
        (.eff (some 50) (.buildSlice 23 42 #[(0, .tmp 0), (1, .tmp 1), (2, .tmp 2), (3, .tmp 3), (4, .tmp 4), (5, .tmp 5), (6, .tmp 6), (7, .tmp 7), (8, .tmp 8), (9, .tmp 9), (10, .tmp 10), (11, .tmp 11), (12, .tmp 12), (13, .tmp 13), (14, .tmp 14), (15, .tmp 15), (16, .tmp 16), (17, .tmp 17), (18, .tmp 18), (19, .tmp 19), (20, .tmp 20), (21, .tmp 21), (22, .tmp 22), (23, .tmp 23), (24, .tmp 24), (25, .tmp 25), (26, .tmp 26), (27, .tmp 27), (28, .tmp 28), (29, .tmp 29), (30, .tmp 30), (31, .tmp 31), (32, .tmp 32), (33, .tmp 33), (34, .tmp 34), (35, .tmp 35), (36, .tmp 36), (37, .tmp 37), (38, .tmp 38), (39, .tmp 39), (40, .tmp 40), (41, .tmp 41)]) D.x3_0)
        (.sets [(3, (.loc 50))]))
      (.seq
        (.seq
          (.seq
            (.sets [(58, (.load 22 (.ia 23 (.loc 3) (.bin .rem 3 (.bin .and 3 (.loc 0) (.val (.int .i64 255))) (.len 23 (.loc 3))))))])
            (.eff (some 4) (.alloc 22) []))
          (.eff none (.store 22 (.tmp 0) (.tmp 1)) [(.loc 4), (.loc 58)]))
        (.seq
          (.seq
            (.seq
              (.seq
                (.sets [(65, (.ext (.call 8 [(.load 9 (.fa 22 (.loc 4) 0))]) 2)), (64, (.ext (.call 8 [(.load 9 (.fa 22 (.loc 4) 0))]) 1)), (63, (.ext (.call 8 [(.load 9 (.fa 22 (.loc 4) 0))]) 0))])
                (.eff (some 5) (.alloc 29) []))
              (.eff none (.store 29 (.tmp 0) (.tmp 1)) [(.loc 5), (.loc 63)]))
            (.sets [(7, (.loc 65)), (6, (.loc 64))]))
          (.seq
            (.cond (.bin .geq 3 (.load 3 (.fa 22 (.loc 4) 2)) (.val (.int .i64 0)))
              (.seq
                (.sets [(2, (.ite (.ite (.ite (.un .not (.loc 7)) (.bin .eql 3 (.loc 6) (.load 3 (.fa 22 (.loc 4) 2))) (.val (.bool false))) (.bin .eql 29 (.load 29 (.loc 5)) (.bld 29 [] [])) (.val (.bool false))) (.call 9 []) (.val (.bool false))))])
                .ret)
              .skip)
            (.seq
              (.sets [(2, (.ite (.ite (.ite (.loc 7) (.bin .eql 3 (.load 3 (.fa 29 (.loc 5) 0)) (.load 3 (.fa 22 (.loc 4) 1))) (.val (.bool false))) (.bin .eql 3 (.loc 6) (.val (.int .i64 0))) (.val (.bool false))) (.call 9 []) (.val (.bool false))))])
              .ret))))))
theorem D.ok3 : digFn cfg.P cfg.inl D.h3 1 F.c3 = some D.s3 := by rw [cfgP, cfgIn]; kernel_rfl
theorem D.v3 {n : Nat} {a0 : AV} {v : AV} (h : finV cfg.P [.tmp 2] (sexec cfg (acall cfg n) D.s3 [] (a0 :: .undef :: .undef :: .undef :: .undef :: .undef :: .undef :: .undef :: .undef :: .undef :: .undef :: .undef :: .undef :: .undef :: .undef :: .undef :: .undef :: .undef :: .undef :: .undef :: .undef :: .undef :: .undef :: .undef :: .undef :: .undef :: .undef :: .undef :: .undef :: .undef :: .undef :: .undef :: .undef :: .undef :: .undef :: .undef :: .undef :: .undef :: .undef :: .undef :: .undef :: .undef :: .undef :: .undef :: .undef :: .undef :: .undef :: .undef :: .undef :: .undef :: .undef :: .undef :: .undef :: .undef :: .undef :: .undef :: .undef :: .undef :: .undef :: .undef :: .undef :: .undef :: .undef :: .undef :: .undef :: .undef :: pad 34) []) = some v) : vcall cfg (acall cfg n) 3 [a0] = some v := vcall_dig (acall_val cfg n) (cfgPrim _ _ (by decide)) F.fn3 F.ok3 rfl rfl rfl D.ok3 (by rw [env0S_pad (m := 66) (by simp) (by decide)]; exact h)
@[simp] theorem D.a3 (n : Nat) (ns : List Nat) (args : List AV) (H : Heap) : acall cfg (n + 1) ns 3 args H = callV cfg n 3 args H := acall_callV F.inl3
/- 4 augury/augurylaw5.SynsFields -/
def D.h4 : Hint := { nt := 175, keep := [0, 1, 2, 3, 4, 10, 11, 12, 13, 14, 15, 16, 17, 18, 19, 20, 22, 23, 24, 25, 26, 36, 37, 38, 42, 43, 44, 45, 46, 47, 48, 49, 50, 51, 52, 53, 54, 55, 56, 57, 58, 59, 60, 61, 62, 63, 64, 65, 66, 68, 71, 72, 73, 74, 75, 76, 77, 78, 79, 80, 81, 82, 83, 84, 85, 86, 89, 90, 91, 92, 93, 94, 95, 96, 97, 98, 99, 100, 101, 102, 103, 106, 107, 108, 109, 110, 111, 112, 113, 114, 115, 116, 117, 118, 119, 120, 123, 124, 125, 126, 127, 128, 129, 130, 131, 132, 133, 134, 135, 136, 137, 138, 139, 142, 143, 144, 145, 149, 150, 151], raws := [7, 10, 12, 14, 16, 18], cals := [], rs := [] }
noncomputable def D.x4_0 : List X := [(.val (.str [97, 100, 100])), (.val (.str [115, 117, 98])), (.val (.str [97, 110, 100])), (.val (.str [111, 114])), (.val (.str [120, 111, 114])), (.val (.str [115, 104, 108])), (.val (.str [115, 104, 114])), (.val (.str [109, 117, 108])), (.val (.str [108, 116])), (.val (.str [101, 113]))]
noncomputable def D.s4 : S := 
  (.seq
    (.sets [(10, (.val (.bool false)))])
    (.seq
      (.seq
        (.eff (some 25) (.buildSlice 34 10 #[(0, .tmp 0), (1, .tmp 1), (2, .tmp 2), (3, .tmp 3), (4, .tmp 4), (5, .tmp 5), (6, .tmp 6), (7, .tmp 7), (8, .tmp 8), (9, .tmp 9)]) D.x4_0)
        (.sets [(11, (.loc 25))]))
      (.seq
        (.seq
          (.eff (some 26) (.buildSlice 34 4 #[(0, .tmp 0), (1, .tmp 1), (2, .tmp 2), (3, .tmp 3)]) [(.val (.str [114, 48])), (.val (.str [114, 49])), (.val (.str [114, 50])), (.val (.str [114, 51]))])
          (.seq
            (.eff (some 12) (.alloc 34) [])
            (.eff none (.store 34 (.tmp 0) (.tmp 1)) [(.loc 12), (.loc 26)])))
        (.seq
          (.sets [(1, (.bin .and 3 (.loc 1) (.val (.int .i64 3)))), (0, (.bin .rem 3 (.bin .and 3 (.loc 0) (.val (.int .i64 255))) (.val (.int .i64 10))))])
          (.seq
            (.sets [(13, (.mkf 10 [(.loc 12)]))])
            (.seq
              (.seq
                (.cal (some 36) (.loc 13) [(.loc 2)])
                (.seq
                  (.seq
                    (.sets [(38, (.ext (.loc 36) 1)), (37, (.ext (.loc 36) 0))])
                    (.eff (some 15) (.alloc 25) []))
                  (.seq
                    (.sets [(14, (.loc 37))])
                    (.eff none (.store 25 (.tmp 0) (.tmp 1)) [(.loc 15), (.loc 38)]))))
              (.seq
                (.seq
                  (.cal (some 42) (.loc 13) [(.loc 3)])
                  (.seq
                    (.seq
                      (.sets [(44, (.ext (.loc 42) 1)), (43, (.ext (.loc 42) 0))])
                      (.eff (some 17) (.alloc 25) []))
                    (.seq
                      (.sets [(16, (.loc 43))])
                      (.eff none (.store 25 (.tmp 0) (.tmp 1)) [(.loc 17), (.loc 44)]))))
                (.seq
                  (.raw (regOps F.c4 7) true)
                  (.seq
                    (.seq
                      (.sets [(68, (.bin .and 3 (.loc 4) (.val (.int .i64 7))))])
                      (.block 0
                        (.cond (.bin .eql 3 (.loc 68) (.val (.int .i64 1)))
                          (.raw (regOps F.c4 10) true)
                          (.cond (.bin .eql 3 (.loc 68) (.val (.int .i64 2)))
                            (.raw (regOps F.c4 12) true)
                            (.cond (.bin .eql 3 (.loc 68) (.val (.int .i64 3)))
                              (.raw (regOps F.c4 14) true)
                              (.cond (.bin .eql 3 (.loc 68) (.val (.int .i64 4)))
                                (.raw (regOps F.c4 16) true)
                                (.cond (.bin .eql 3 (.loc 68) (.val (.int .i64 5)))
                                  (.raw (regOps F.c4 18) true)
                                  .skip)))))))
                    (.seq
                      (.seq
                        (.seq
                          (.seq
                            (.sets [(151, (.ext (.call 8 [(.loc 18)]) 2)), (150, (.ext (.call 8 [(.loc 18)]) 1)), (149, (.ext (.call 8 [(.loc 18)]) 0))])
                            (.eff (some 20) (.alloc 29) []))
                          (.eff none (.store 29 (.tmp 0) (.tmp 1)) [(.loc 20), (.loc 149)]))
                        (.seq
                          (.seq
                            (.chk (.loc 150))
                            .skip)
                          (.sets [(22, (.loc 151))])))
                      (.seq
                        (.sets [(24, (.ext (.call 11 [(.load 29 (.loc 20))]) 1)), (23, (.ext (.call 11 [(.load 29 (.loc 20))]) 0))])
                        (.seq
                          (.sets [(10, (.ite (.ite (.ite (.ite (.loc 22) (.bin .eql 29 (.load 29 (.loc 20)) (.bld 29 [0, 4] [(.val (.int .i64 7)), (.load 27 (.loc 19))])) (.val (.bool false))) (.loc 24) (.val (.bool false))) (.bin .eql 9 (.loc 23) (.loc 18)) (.val (.bool false))) (.call 9 []) (.val (.bool false))))])
                          .ret))))))))))))
theorem D.ok4 : digFn cfg.P cfg.inl D.h4 5 F.c4 = some D.s4 := by rw [cfgP, cfgIn]; kernel_rfl
theorem D.v4 {n : Nat} {a0 a1 a2 a3 a4 : AV} {v : AV} (h : finV cfg.P [.tmp 10] (sexec cfg (acall cfg n) D.s4 [] (a0 :: a1 :: a2 :: a3 :: a4 :: .undef :: .undef :: .undef :: .undef :: .undef :: .undef :: .undef :: .undef :: .undef :: .undef :: .undef :: .undef :: .undef :: .undef :: .undef :: .undef :: .undef :: .undef :: .undef :: .undef :: .undef :: .undef :: .undef :: .undef :: .undef :: .undef :: .undef :: .undef :: .undef :: .undef :: .undef :: .undef :: .undef :: .undef :: .undef :: .undef :: .undef :: .undef :: .undef :: .undef :: .undef :: .undef :: .undef :: .undef :: .undef :: .undef :: .undef :: .undef :: .undef :: .undef :: .undef :: .undef :: .undef :: .undef :: .undef :: .undef :: .undef :: .undef :: .undef :: .undef :: .undef :: .undef :: .undef :: .undef :: .undef :: .undef :: .undef :: .undef :: .undef :: .undef :: .undef :: .undef :: .undef :: .undef :: .undef :: .undef :: .undef :: .undef :: .undef :: .undef :: .undef :: .undef :: .undef :: .undef :: .undef :: .undef :: .undef :: .undef :: .undef :: .undef :: .undef :: .undef :: .undef :: .undef :: .undef :: .undef :: .undef :: .undef :: .undef :: .undef :: .undef :: .undef :: .undef :: .undef :: .undef :: .undef :: .undef :: .undef :: .undef :: .undef :: .undef :: .undef :: .undef :: .undef :: .undef :: .undef :: .undef :: .undef :: .undef :: .undef :: .undef :: .undef :: .undef :: .undef :: .undef :: .undef :: .undef :: .undef :: .undef :: .undef :: .undef :: .undef :: .undef :: .undef :: .undef :: .undef :: .undef :: .undef :: .undef :: .undef :: .undef :: .undef :: .undef :: .undef :: .undef :: .undef :: .undef :: pad 23) []) = some v) : vcall cfg (acall cfg n) 4 [a0, a1, a2, a3, a4] = some v := vcall_dig (acall_val cfg n) (cfgPrim _ _ (by decide)) F.fn4 F.ok4 rfl rfl rfl D.ok4 (by rw [env0S_pad (m := 152) (by simp) (by decide)]; exact h)
@[simp] theorem D.a4 (n : Nat) (ns : List Nat) (args : List AV) (H : Heap) : acall cfg (n + 1) ns 4 args H = callV cfg n 4 args H := acall_callV F.inl4
/- 5 augury/augurylaw5.SynsNone -/
def D.h5 : Hint := { nt := 149, keep := [0, 2, 3, 4, 5, 6, 7, 8, 10, 12, 14, 16, 18, 20, 22, 24, 26, 29, 32, 34, 36, 38, 40, 42, 44, 46, 47, 48, 49, 50, 51, 52, 53, 54, 55, 56, 57, 58, 59, 60, 61, 62, 63, 65, 66, 67, 68, 69, 70, 71, 72, 73, 74, 75, 76, 77, 78, 79, 80, 81, 82, 83, 84, 86, 87, 88, 89, 90, 91, 92, 93, 94, 95, 96, 97, 98, 99, 101, 109, 119, 120, 121], raws := [], cals := [], rs := [] }
noncomputable def D.x5_0 : List X := [(.loc 12), (.loc 14), (.loc 16), (.loc 18), (.loc 20), (.loc 22), (.loc 24), (.loc 26), (.loc 29), (.loc 32), (.loc 34), (.loc 36), (.loc 38), (.loc 40), (.loc 42), (.loc 44), (.loc 46), (.loc 50), (.loc 54), (.loc 58), (.loc 62), (.loc 67), (.loc 71), (.loc 75), (.loc 79), (.loc 83), (.loc 88), (.loc 92), (.loc 96), (.bld 42 [0, 1] [(.loc 99), (.val (.bool true))])]
noncomputable def D.s5 : S := 
  (.seq
    (.sets [(2, (.val (.bool false)))])
    (.seq
      (.sets [(3, (.val (.fn 12 [])))])
      (.seq
        (.seq
          (.seq
            (.seq
              (.sets [(48, (.bld 27 [0, 1] [(.val (.int .i64 1)), (.val (.int .i64 1))])), (47, (.loc 3)), (46, (.bld 42 [0, 1] [(.bld 29 [0, 3] [(.val (.int .i64 6)), (.val (.str [97, 32, 98]))]), (.val (.bool false))])), (44, (.bld 42 [0, 1] [(.bld 29 [0, 3] [(.val (.int .i64 6)), (.val (.str [114, 48]))]), (.val (.bool false))])), (42, (.bld 42 [0, 1] [(.bld 29 [0, 3] [(.val (.int .i64 6)), (.val (.str [108, 48]))]), (.val (.bool true))])), (40, (.bld 42 [0, 1] [(.bld 29 [0, 3, 1] [(.val (.int .i64 5)), (.val (.str [65])), (.val (.int .i64 2))]), (.val (.bool false))])), (38, (.bld 42 [0, 1] [(.bld 29 [0, 3, 1] [(.val (.int .i64 5)), (.val (.str [])), (.val (.int .i64 2))]), (.val (.bool false))])), (36, (.bld 42 [0, 1] [(.bld 29 [0, 3, 1] [(.val (.int .i64 5)), (.val (.str [104, 97, 108, 116])), (.val (.int .i64 2))]), (.val (.bool false))])), (34, (.bld 42 [0, 1] [(.bld 29 [0, 3, 1, 2] [(.val (.int .i64 5)), (.val (.str [109])), (.val (.int .i64 2)), (.val (.bool true))]), (.val (.bool true))])), (32, (.bld 42 [0, 1] [(.bld 29 [0, 4] [(.val (.int .i64 4)), (.bld 27 [2] [(.val (.int .i64 4))])]), (.val (.bool false))])), (29, (.bld 42 [0, 1] [(.bld 29 [0, 4] [(.val (.int .i64 4)), (.bld 27 [2] [(.val (.int .i64 3))])]), (.val (.bool true))])), (26, (.bld 42 [0, 1] [(.bld 29 [0, 1, 3] [(.val (.int .i64 1)), (.val (.int .i64 5)), (.val (.str [120]))]), (.val (.bool false))])), (24, (.bld 42 [0, 1] [(.bld 29 [0, 1] [(.val (.int .i64 3)), (.val (.int .i64 99999))]), (.val (.bool true))])), (22, (.bld 42 [0, 1] [(.bld 29 [0, 1] [(.val (.int .i64 1)), (.val (.int .i64 100000))]), (.val (.bool false))])), (20, (.bld 42 [0, 1] [(.bld 29 [0, 1] [(.val (.int .i64 1)), (.val (.int .i64 (-1)))]), (.val (.bool false))])), (18, (.bld 42 [0, 1] [(.bld 29 [0, 1] [(.val (.int .i64 1)), (.val (.int .i64 5))]), (.val (.bool true))])), (16, (.bld 42 [0, 1] [(.bld 29 [0] [(.val (.int .i64 (-1)))]), (.val (.bool false))])), (14, (.bld 42 [0, 1] [(.bld 29 [0] [(.val (.int .i64 8))]), (.val (.bool false))])), (12, (.bld 42 [0, 1] [(.bld 29 [] []), (.val (.bool true))]))])
              (.cal (some 49) (.loc 47) [(.loc 48)]))
            (.seq
              (.seq
                (.sets [(52, (.bld 27 [0, 1] [(.val (.int .i64 1)), (.val (.int .i64 11))])), (51, (.loc 3)), (50, (.bld 42 [0, 1] [(.loc 49), (.val (.bool true))]))])
                (.cal (some 53) (.loc 51) [(.loc 52)]))
              (.seq
                (.seq
                  (.sets [(56, (.bld 27 [0] [(.val (.int .i64 1))])), (55, (.loc 3)), (54, (.bld 42 [0, 1] [(.loc 53), (.val (.bool false))]))])
                  (.cal (some 57) (.loc 55) [(.loc 56)]))
                (.seq
                  (.seq
                    (.sets [(60, (.bld 27 [0, 1, 2] [(.val (.int .i64 1)), (.val (.int .i64 1)), (.val (.int .i64 4))])), (59, (.loc 3)), (58, (.bld 42 [0, 1] [(.loc 57), (.val (.bool false))]))])
                    (.cal (some 61) (.loc 59) [(.loc 60)]))
                  (.seq
                    (.seq
                      (.sets [(65, (.bld 27 [0, 1, 3] [(.val (.int .i64 1)), (.val (.int .i64 1)), (.bld 25 [0, 1] [(.val (.bool true)), (.val (.int .i64 4))])])), (63, (.loc 3)), (62, (.bld 42 [0, 1] [(.loc 61), (.val (.bool false))]))])
                      (.cal (some 66) (.loc 63) [(.loc 65)]))
                    (.seq
                      (.seq
                        (.sets [(69, (.bld 27 [0, 1] [(.val (.int .i64 2)), (.val (.int .i64 1))])), (68, (.loc 3)), (67, (.bld 42 [0, 1] [(.loc 66), (.val (.bool false))]))])
                        (.cal (some 70) (.loc 68) [(.loc 69)]))
                      (.seq
                        (.seq
                          (.sets [(73, (.bld 27 [0, 1, 5] [(.val (.int .i64 5)), (.val (.int .i64 9)), (.val (.str [120]))])), (72, (.loc 3)), (71, (.bld 42 [0, 1] [(.loc 70), (.val (.bool false))]))])
                          (.cal (some 74) (.loc 72) [(.loc 73)]))
                        (.seq
                          (.seq
                            (.sets [(77, (.bld 27 [0, 1] [(.val (.int .i64 5)), (.val (.int .i64 9))])), (76, (.loc 3)), (75, (.bld 42 [0, 1] [(.loc 74), (.val (.bool true))]))])
                            (.cal (some 78) (.loc 76) [(.loc 77)]))
                          (.seq
                            (.seq
                              (.sets [(81, (.bld 27 [0, 5, 6] [(.val (.int .i64 6)), (.val (.str [120])), (.val (.int .i64 1))])), (80, (.loc 3)), (79, (.bld 42 [0, 1] [(.loc 78), (.val (.bool false))]))])
                              (.cal (some 82) (.loc 80) [(.loc 81)]))
                            (.seq
                              (.seq
                                (.sets [(86, (.bld 27 [0, 4] [(.val (.int .i64 7)), (.bld 25 [1] [(.val (.int .i64 1))])])), (84, (.loc 3)), (83, (.bld 42 [0, 1] [(.loc 82), (.val (.bool false))]))])
                                (.cal (some 87) (.loc 84) [(.loc 86)]))
                              (.seq
                                (.seq
                                  (.sets [(90, (.bld 27 [0] [(.val (.int .i64 12))])), (89, (.loc 3)), (88, (.bld 42 [0, 1] [(.loc 87), (.val (.bool false))]))])
                                  (.cal (some 91) (.loc 89) [(.loc 90)]))
                                (.seq
                                  (.seq
                                    (.sets [(94, (.bld 27 [] [])), (93, (.loc 3)), (92, (.bld 42 [0, 1] [(.loc 91), (.val (.bool false))]))])
                                    (.cal (some 95) (.loc 93) [(.loc 94)]))
                                  (.seq
                                    (.seq
                                      (.sets [(98, (.bld 27 [0] [(.val (.int .i64 11))])), (97, (.loc 3)), (96, (.bld 42 [0, 1] [(.loc 95), (.val (.bool false))]))])
                                      (.cal (some 99) (.loc 97) [(.loc 98)]))
                                    (.eff (some 101) (.buildSlice 43 30 #[(0, .tmp 0), (1, .tmp 1), (2, .tmp 2), (3, .tmp 3), (4, .tmp 4), (5, .tmp 5), (6, .tmp 6), (7, .tmp 7), (8, .tmp 8), (9, .tmp 9), (10, .tmp 10), (11, .tmp 11), (12, .tmp 12), (13, .tmp 13), (14, .tmp 14), (15, .tmp 15), (16, .tmp 16), (17, .tmp 17), (18, .tmp 18), (19, .tmp 19), (20, .tmp 20), (21, .tmp 21), (22, .tmp 22), (23, .tmp 23), (24, .tmp 24), (25, .tmp 25), (26, .tmp 26), (27, .tmp 27), (28, .tmp 28), (29, .tmp 29)]) D.x5_0))))))))))))))
          (.sets [(4, (.loc 101))]))
        (.seq
          (.seq
            (.seq
              (.sets [(109, (.load 42 (.ia 43 (.loc 4) (.bin .rem 3 (.bin .and 3 (.loc 0) (.val (.int .i64 255))) (.len 43 (.loc 4))))))])
              (.eff (some 5) (.alloc 42) []))
            (.eff none (.store 42 (.tmp 0) (.tmp 1)) [(.loc 5), (.loc 109)]))
          (.seq
            (.sets [(7, (.ext (.call 11 [(.load 29 (.fa 42 (.loc 5) 0))]) 1)), (6, (.ext (.call 11 [(.load 29 (.fa 42 (.loc 5) 0))]) 0))])
            (.seq
              (.seq
                (.seq
                  (.seq
                    (.sets [(121, (.ext (.call 8 [(.loc 6)]) 2)), (120, (.ext (.call 8 [(.loc 6)]) 1)), (119, (.ext (.call 8 [(.loc 6)]) 0))])
                    (.eff (some 8) (.alloc 29) []))
                  (.eff none (.store 29 (.tmp 0) (.tmp 1)) [(.loc 8), (.loc 119)]))
                (.seq
                  (.seq
                    (.chk (.loc 120))
                    .skip)
                  (.sets [(10, (.loc 121))])))
              (.seq
                (.sets [(2, (.ite (.ite (.bin .eql 4 (.loc 7) (.load 4 (.fa 42 (.loc 5) 1))) (.ite (.ite (.un .not (.loc 7)) (.bin .eql 9 (.loc 6) (.val (.str []))) (.val (.bool false))) (.val (.bool true)) (.ite (.ite (.loc 7) (.loc 10) (.val (.bool false))) (.bin .eql 29 (.load 29 (.loc 8)) (.load 29 (.fa 42 (.loc 5) 0))) (.val (.bool false)))) (.val (.bool false))) (.call 9 []) (.val (.bool false))))])
                .ret)))))))
theorem D.ok5 : digFn cfg.P cfg.inl D.h5 1 F.c5 = some D.s5 := by rw [cfgP, cfgIn]; kernel_rfl
theorem D.v5 {n : Nat} {a0 : AV} {v : AV} (h : finV cfg.P [.tmp 2] (sexec cfg (acall cfg n) D.s5 [] (a0 :: .undef :: .undef :: .undef :: .undef :: .undef :: .undef :: .undef :: .undef :: .undef :: .undef :: .undef :: .undef :: .undef :: .undef :: .undef :: .undef :: .undef :: .undef :: .undef :: .undef :: .undef :: .undef :: .undef :: .undef :: .undef :: .undef :: .undef :: .undef :: .undef :: .undef :: .undef :: .undef :: .undef :: .undef :: .undef :: .undef :: .undef :: .undef :: .undef :: .undef :: .undef :: .undef :: .undef :: .undef :: .undef :: .undef :: .undef :: .undef :: .undef :: .undef :: .undef :: .undef :: .undef :: .undef :: .undef :: .undef :: .undef :: .undef :: .undef :: .undef :: .undef :: .undef :: .undef :: .undef :: .undef :: .undef :: .undef :: .undef :: .undef :: .undef :: .undef :: .undef :: .undef :: .undef :: .undef :: .undef :: .undef :: .undef :: .undef :: .undef :: .undef :: .undef :: .undef :: .undef :: .undef :: .undef :: .undef :: .undef :: .undef :: .undef :: .undef :: .undef :: .undef :: .undef :: .undef :: .undef :: .undef :: .undef :: .undef :: .undef :: .undef :: .undef :: .undef :: .undef :: .undef :: .undef :: .undef :: .undef :: .undef :: .undef :: .undef :: .undef :: .undef :: .undef :: .undef :: .undef :: .undef :: .undef :: .undef :: .undef :: .undef :: pad 27) []) = some v) : vcall cfg (acall cfg n) 5 [a0] = some v := vcall_dig (acall_val cfg n) (cfgPrim _ _ (by decide)) F.fn5 F.ok5 rfl rfl rfl D.ok5 (by rw [env0S_pad (m := 122) (by simp) (by decide)]; exact h)
@[simp] theorem D.a5 (n : Nat) (ns : List Nat) (args : List AV) (H : Heap) : acall cfg (n + 1) ns 5 args H = callV cfg n 5 args H := acall_callV F.inl5
/- 6 augury/augurylaw5.SynsTells -/
def D.h6 : Hint := { nt := 110, keep := [0, 1, 2, 3, 7, 8, 10, 11, 12, 13, 14, 15, 16, 18, 19, 20, 21, 22, 38, 39, 40, 41, 42, 43, 44, 45, 46, 47, 48, 49, 50, 51, 52, 59, 60, 61, 65, 66, 67, 83, 84, 85, 88], raws := [3], cals := [], rs := [[0, 1, 2, 3, 8, 10, 11, 12, 13, 14, 15, 16, 18, 19, 20, 21, 22, 38, 39, 40, 41, 42, 43, 44, 45, 46, 47, 48, 49, 59, 60, 61, 65, 66, 67, 83, 84, 85, 88], [0, 1, 2, 3, 8, 10, 11, 12, 13, 14, 15, 16, 18, 19, 20, 21, 22, 38, 39, 40, 41, 42, 43, 44, 45, 46, 47, 48, 49, 59, 60, 61, 65, 66, 67, 88]] }
noncomputable def D.b6_1 : S := 
  (.seq
    (.cond (.bin .lss 3 (.loc 85) (.loc 84))
      .skip
      (.exit 2))
    (.seq
      (.block 3
        (.seq
          (.seq
            (.seq
              (.sets [(88, (.load 29 (.ia 46 (.loc 83) (.loc 85))))])
              (.eff (some 18) (.alloc 29) []))
            (.eff none (.store 29 (.tmp 0) (.tmp 1)) [(.loc 18), (.loc 88)]))
          (.seq
            (.sets [(20, (.ext (.call 11 [(.load 29 (.loc 18))]) 1)), (19, (.ext (.call 11 [(.load 29 (.loc 18))]) 0))])
            (.seq
              (.sets [(22, (.ext (.call 16 [(.load 29 (.loc 18))]) 1)), (21, (.ext (.call 16 [(.load 29 (.loc 18))]) 0))])
              (.cond (.ite (.bin .neq 4 (.loc 20) (.loc 22)) (.val (.bool true)) (.bin .neq 9 (.loc 19) (.loc 21)))
                (.seq
                  (.sets [(8, (.val (.bool false)))])
                  .ret)
                .skip)))))
      (.sets [(85, (.bin .add 3 (.loc 85) (.val (.int .i64 1))))])))
theorem D.e6_1 {C : Cfg} {call : Callee'} {ns : List Nat} {L : Env} {H : Heap} : sexec C call D.b6_1 ns L H = sexec C call
  (.seq
    (.cond (.bin .lss 3 (.loc 85) (.loc 84))
      .skip
      (.exit 2))
    (.seq
      (.block 3
        (.seq
          (.seq
            (.seq
              (.sets [(88, (.load 29 (.ia 46 (.loc 83) (.loc 85))))])
              (.eff (some 18) (.alloc 29) []))
            (.eff none (.store 29 (.tmp 0) (.tmp 1)) [(.loc 18), (.loc 88)]))
          (.seq
            (.sets [(20, (.ext (.call 11 [(.load 29 (.loc 18))]) 1)), (19, (.ext (.call 11 [(.load 29 (.loc 18))]) 0))])
            (.seq
              (.sets [(22, (.ext (.call 16 [(.load 29 (.loc 18))]) 1)), (21, (.ext (.call 16 [(.load 29 (.loc 18))]) 0))])
              (.cond (.ite (.bin .neq 4 (.loc 20) (.loc 22)) (.val (.bool true)) (.bin .neq 9 (.loc 19) (.loc 21)))
                (.seq
                  (.sets [(8, (.val (.bool false)))])
                  .ret)
                .skip)))))
      (.sets [(85, (.bin .add 3 (.loc 85) (.val (.int .i64 1))))]))) ns L H := rfl
noncomputable def D.b6_0 : S := 
  (.seq
    (.cond (.bin .lss 3 (.loc 52) (.loc 51))
      .skip
      (.exit 0))
    (.seq
      (.block 1
        (.seq
          (.sets [(10, (.load 9 (.ia 34 (.loc 50) (.loc 52))))])
          (.seq
            (.seq
              (.seq
                (.seq
                  (.sets [(61, (.ext (.call 8 [(.loc 10)]) 2)), (60, (.ext (.call 8 [(.loc 10)]) 1)), (59, (.ext (.call 8 [(.loc 10)]) 0))])
                  (.eff (some 11) (.alloc 29) []))
                (.eff none (.store 29 (.tmp 0) (.tmp 1)) [(.loc 11), (.loc 59)]))
              (.sets [(13, (.loc 61)), (12, (.loc 60))]))
            (.seq
              (.seq
                (.seq
                  (.seq
                    (.sets [(67, (.ext (.call 15 [(.loc 10)]) 2)), (66, (.ext (.call 15 [(.loc 10)]) 1)), (65, (.ext (.call 15 [(.loc 10)]) 0))])
                    (.eff (some 14) (.alloc 29) []))
                  (.eff none (.store 29 (.tmp 0) (.tmp 1)) [(.loc 14), (.loc 65)]))
                (.sets [(16, (.loc 67)), (15, (.loc 66))]))
              (.seq
                (.cond (.ite (.ite (.bin .neq 4 (.loc 13) (.loc 16)) (.val (.bool true)) (.bin .neq 3 (.loc 12) (.loc 15))) (.val (.bool true)) (.bin .neq 29 (.load 29 (.loc 11)) (.load 29 (.loc 14))))
                  (.seq
                    (.sets [(8, (.val (.bool false)))])
                    .ret)
                  .skip)
                (.seq
                  (.seq
                    (.eff (some 83) (.buildSlice 46 2 #[(0, .tmp 0), (1, .tmp 1)]) [(.load 29 (.loc 11)), (.load 29 (.loc 7))])
                    (.sets [(85, (.val (.int .i64 0))), (84, (.len 46 (.loc 83)))]))
                  (.block 2
                    (.loop [0, 1, 2, 3, 8, 10, 11, 12, 13, 14, 15, 16, 18, 19, 20, 21, 22, 38, 39, 40, 41, 42, 43, 44, 45, 46, 47, 48, 49, 59, 60, 61, 65, 66, 67, 88] D.b6_1))))))))
      (.sets [(52, (.bin .add 3 (.loc 52) (.val (.int .i64 1))))])))
theorem D.e6_0 {C : Cfg} {call : Callee'} {ns : List Nat} {L : Env} {H : Heap} : sexec C call D.b6_0 ns L H = sexec C call
  (.seq
    (.cond (.bin .lss 3 (.loc 52) (.loc 51))
      .skip
      (.exit 0))
    (.seq
      (.block 1
        (.seq
          (.sets [(10, (.load 9 (.ia 34 (.loc 50) (.loc 52))))])
          (.seq
            (.seq
              (.seq
                (.seq
                  (.sets [(61, (.ext (.call 8 [(.loc 10)]) 2)), (60, (.ext (.call 8 [(.loc 10)]) 1)), (59, (.ext (.call 8 [(.loc 10)]) 0))])
                  (.eff (some 11) (.alloc 29) []))
                (.eff none (.store 29 (.tmp 0) (.tmp 1)) [(.loc 11), (.loc 59)]))
              (.sets [(13, (.loc 61)), (12, (.loc 60))]))
            (.seq
              (.seq
                (.seq
                  (.seq
                    (.sets [(67, (.ext (.call 15 [(.loc 10)]) 2)), (66, (.ext (.call 15 [(.loc 10)]) 1)), (65, (.ext (.call 15 [(.loc 10)]) 0))])
                    (.eff (some 14) (.alloc 29) []))
                  (.eff none (.store 29 (.tmp 0) (.tmp 1)) [(.loc 14), (.loc 65)]))
                (.sets [(16, (.loc 67)), (15, (.loc 66))]))
              (.seq
                (.cond (.ite (.ite (.bin .neq 4 (.loc 13) (.loc 16)) (.val (.bool true)) (.bin .neq 3 (.loc 12) (.loc 15))) (.val (.bool true)) (.bin .neq 29 (.load 29 (.loc 11)) (.load 29 (.loc 14))))
                  (.seq
                    (.sets [(8, (.val (.bool false)))])
                    .ret)
                  .skip)
                (.seq
                  (.seq
                    (.eff (some 83) (.buildSlice 46 2 #[(0, .tmp 0), (1, .tmp 1)]) [(.load 29 (.loc 11)), (.load 29 (.loc 7))])
                    (.sets [(85, (.val (.int .i64 0))), (84, (.len 46 (.loc 83)))]))
                  (.block 2
                    (.loop [0, 1, 2, 3, 8, 10, 11, 12, 13, 14, 15, 16, 18, 19, 20, 21, 22, 38, 39, 40, 41, 42, 43, 44, 45, 46, 47, 48, 49, 59, 60, 61, 65, 66, 67, 88] D.b6_1))))))))
      (.sets [(52, (.bin .add 3 (.loc 52) (.val (.int .i64 1))))]))) ns L H := rfl
noncomputable def D.s6 : S := 
  (.seq
    (.seq
      (.eff (some 7) (.box 29 (.tmp 0)) [(.loc 3)])
      (.sets [(8, (.val (.bool false)))]))
    (.seq
      (.cond (.ite (.bin .gtr 3 (.len 44 (.loc 0)) (.val (.int .i64 200))) (.val (.bool true)) (.bin .gtr 3 (.bin .add 3 (.len 9 (.load 9 (.fa 29 (.loc 7) 3))) (.len 9 (.load 9 (.fa 27 (.fa 29 (.loc 7) 4) 5)))) (.val (.int .i64 100))))
        (.seq
          (.sets [(8, (.call 9 []))])
          .ret)
        .skip)
      (.seq
        (.seq
          (.raw (regOps F.c6 3) true)
          (.block 0
            (.loop [0, 1, 2, 3, 8, 10, 11, 12, 13, 14, 15, 16, 18, 19, 20, 21, 22, 38, 39, 40, 41, 42, 43, 44, 45, 46, 47, 48, 49, 59, 60, 61, 65, 66, 67, 83, 84, 85, 88] D.b6_0)))
        (.seq
          (.sets [(8, (.call 9 []))])
          .ret))))
theorem D.ok6 : digFn cfg.P cfg.inl D.h6 4 F.c6 = some D.s6 := by rw [cfgP, cfgIn]; kernel_rfl
theorem D.v6 {n : Nat} {a0 a1 a2 a3 : AV} {v : AV} (h : finV cfg.P [.tmp 8] (sexec cfg (acall cfg n) D.s6 [] (a0 :: a1 :: a2 :: a3 :: .undef :: .undef :: .undef :: .undef :: .undef :: .undef :: .undef :: .undef :: .undef :: .undef :: .undef :: .undef :: .undef :: .undef :: .undef :: .undef :: .undef :: .undef :: .undef :: .undef :: .undef :: .undef :: .undef :: .undef :: .undef :: .undef :: .undef :: .undef :: .undef :: .undef :: .undef :: .undef :: .undef :: .undef :: .undef :: .undef :: .undef :: .undef :: .undef :: .undef :: .undef :: .undef :: .undef :: .undef :: .undef :: .undef :: .undef :: .undef :: .undef :: .undef :: .undef :: .undef :: .undef :: .undef :: .undef :: .undef :: .undef :: .undef :: .undef :: .undef :: .undef :: .undef :: .undef :: .undef :: .undef :: .undef :: .undef :: .undef :: .undef :: .undef :: .undef :: .undef :: .undef :: .undef :: .undef :: .undef :: .undef :: .undef :: .undef :: .undef :: .undef :: .undef :: .undef :: .undef :: .undef :: pad 21) []) = some v) : vcall cfg (acall cfg n) 6 [a0, a1, a2, a3] = some v := vcall_dig (acall_val cfg n) (cfgPrim _ _ (by decide)) F.fn6 F.ok6 rfl rfl rfl D.ok6 (by rw [env0S_pad (m := 89) (by simp) (by decide)]; exact h)
@[simp] theorem D.a6 (n : Nat) (ns : List Nat) (args : List AV) (H : Heap) : acall cfg (n + 1) ns 6 args H = callV cfg n 6 args H := acall_callV F.inl6
/- 7 augury/augurylaw5.SynsBack -/
def D.h7 : Hint := { nt := 90, keep := [0, 1, 4, 6, 7, 8, 9, 10, 11, 12, 14, 15, 16, 21, 22, 23, 30, 31, 32, 56, 57, 58], raws := [], cals := [], rs := [[0, 1, 4, 6, 7, 8, 9, 10, 11, 12, 14, 15, 16, 30, 31, 32, 56, 57, 58]] }
noncomputable def D.b7_0 : S := 
  (.seq
    (.cond (.bin .lss 3 (.loc 23) (.loc 22))
      .skip
      (.exit 0))
    (.seq
      (.block 1
        (.seq
          (.sets [(6, (.load 9 (.ia 34 (.loc 21) (.loc 23))))])
          (.seq
            (.seq
              (.seq
                (.seq
                  (.sets [(32, (.ext (.call 8 [(.loc 6)]) 2)), (31, (.ext (.call 8 [(.loc 6)]) 1)), (30, (.ext (.call 8 [(.loc 6)]) 0))])
                  (.eff (some 7) (.alloc 29) []))
                (.eff none (.store 29 (.tmp 0) (.tmp 1)) [(.loc 7), (.loc 30)]))
              (.sets [(9, (.loc 32)), (8, (.loc 31))]))
            (.seq
              (.cond (.un .not (.loc 9))
                (.seq
                  (.cond (.ite (.ite (.bin .neq 29 (.load 29 (.loc 7)) (.bld 29 [] [])) (.val (.bool true)) (.bin .lss 3 (.loc 8) (.val (.int .i64 0)))) (.val (.bool true)) (.bin .gtr 3 (.loc 8) (.len 9 (.loc 6))))
                    (.seq
                      (.sets [(4, (.val (.bool false)))])
                      .ret)
                    .skip)
                  (.exit 1))
                .skip)
              (.seq
                (.sets [(11, (.ext (.call 11 [(.load 29 (.loc 7))]) 1)), (10, (.ext (.call 11 [(.load 29 (.loc 7))]) 0))])
                (.seq
                  (.seq
                    (.seq
                      (.seq
                        (.sets [(58, (.ext (.call 8 [(.loc 10)]) 2)), (57, (.ext (.call 8 [(.loc 10)]) 1)), (56, (.ext (.call 8 [(.loc 10)]) 0))])
                        (.eff (some 12) (.alloc 29) []))
                      (.eff none (.store 29 (.tmp 0) (.tmp 1)) [(.loc 12), (.loc 56)]))
                    (.seq
                      (.seq
                        (.chk (.loc 57))
                        .skip)
                      (.sets [(14, (.loc 58))])))
                  (.seq
                    (.sets [(16, (.ext (.call 11 [(.load 29 (.loc 12))]) 1)), (15, (.ext (.call 11 [(.load 29 (.loc 12))]) 0))])
                    (.cond (.ite (.ite (.ite (.ite (.ite (.un .not (.loc 11)) (.val (.bool true)) (.un .not (.loc 14))) (.val (.bool true)) (.bin .neq 29 (.load 29 (.loc 12)) (.load 29 (.loc 7)))) (.val (.bool true)) (.un .not (.loc 16))) (.val (.bool true)) (.bin .neq 9 (.loc 15) (.loc 10))) (.val (.bool true)) (.bin .neq 3 (.loc 8) (.val (.int .i64 0))))
                      (.seq
                        (.sets [(4, (.val (.bool false)))])
                        .ret)
                      .skip))))))))
      (.sets [(23, (.bin .add 3 (.loc 23) (.val (.int .i64 1))))])))
theorem D.e7_0 {C : Cfg} {call : Callee'} {ns : List Nat} {L : Env} {H : Heap} : sexec C call D.b7_0 ns L H = sexec C call
  (.seq
    (.cond (.bin .lss 3 (.loc 23) (.loc 22))
      .skip
      (.exit 0))
    (.seq
      (.block 1
        (.seq
          (.sets [(6, (.load 9 (.ia 34 (.loc 21) (.loc 23))))])
          (.seq
            (.seq
              (.seq
                (.seq
                  (.sets [(32, (.ext (.call 8 [(.loc 6)]) 2)), (31, (.ext (.call 8 [(.loc 6)]) 1)), (30, (.ext (.call 8 [(.loc 6)]) 0))])
                  (.eff (some 7) (.alloc 29) []))
                (.eff none (.store 29 (.tmp 0) (.tmp 1)) [(.loc 7), (.loc 30)]))
              (.sets [(9, (.loc 32)), (8, (.loc 31))]))
            (.seq
              (.cond (.un .not (.loc 9))
                (.seq
                  (.cond (.ite (.ite (.bin .neq 29 (.load 29 (.loc 7)) (.bld 29 [] [])) (.val (.bool true)) (.bin .lss 3 (.loc 8) (.val (.int .i64 0)))) (.val (.bool true)) (.bin .gtr 3 (.loc 8) (.len 9 (.loc 6))))
                    (.seq
                      (.sets [(4, (.val (.bool false)))])
                      .ret)
                    .skip)
                  (.exit 1))
                .skip)
              (.seq
                (.sets [(11, (.ext (.call 11 [(.load 29 (.loc 7))]) 1)), (10, (.ext (.call 11 [(.load 29 (.loc 7))]) 0))])
                (.seq
                  (.seq
                    (.seq
                      (.seq
                        (.sets [(58, (.ext (.call 8 [(.loc 10)]) 2)), (57, (.ext (.call 8 [(.loc 10)]) 1)), (56, (.ext (.call 8 [(.loc 10)]) 0))])
                        (.eff (some 12) (.alloc 29) []))
                      (.eff none (.store 29 (.tmp 0) (.tmp 1)) [(.loc 12), (.loc 56)]))
                    (.seq
                      (.seq
                        (.chk (.loc 57))
                        .skip)
                      (.sets [(14, (.loc 58))])))
                  (.seq
                    (.sets [(16, (.ext (.call 11 [(.load 29 (.loc 12))]) 1)), (15, (.ext (.call 11 [(.load 29 (.loc 12))]) 0))])
                    (.cond (.ite (.ite (.ite (.ite (.ite (.un .not (.loc 11)) (.val (.bool true)) (.un .not (.loc 14))) (.val (.bool true)) (.bin .neq 29 (.load 29 (.loc 12)) (.load 29 (.loc 7)))) (.val (.bool true)) (.un .not (.loc 16))) (.val (.bool true)) (.bin .neq 9 (.loc 15) (.loc 10))) (.val (.bool true)) (.bin .neq 3 (.loc 8) (.val (.int .i64 0))))
                      (.seq
                        (.sets [(4, (.val (.bool false)))])
                        .ret)
                      .skip))))))))
      (.sets [(23, (.bin .add 3 (.loc 23) (.val (.int .i64 1))))]))) ns L H := rfl
noncomputable def D.s7 : S := 
  (.seq
    (.sets [(4, (.val (.bool false)))])
    (.seq
      (.seq
        (.seq
          (.eff (some 21) (.buildSlice 34 2 #[(0, .tmp 0), (1, .tmp 1)]) [(.call 14 [(.loc 0)]), (.call 13 [(.loc 1)])])
          (.sets [(23, (.val (.int .i64 0))), (22, (.len 34 (.loc 21)))]))
        (.block 0
          (.loop [0, 1, 4, 6, 7, 8, 9, 10, 11, 12, 14, 15, 16, 30, 31, 32, 56, 57, 58] D.b7_0)))
      (.seq
        (.sets [(4, (.call 9 []))])
        .ret)))
theorem D.ok7 : digFn cfg.P cfg.inl D.h7 2 F.c7 = some D.s7 := by rw [cfgP, cfgIn]; kernel_rfl
theorem D.v7 {n : Nat} {a0 a1 : AV} {v : AV} (h : finV cfg.P [.tmp 4] (sexec cfg (acall cfg n) D.s7 [] (a0 :: a1 :: .undef :: .undef :: .undef :: .undef :: .undef :: .undef :: .undef :: .undef :: .undef :: .undef :: .undef :: .undef :: .undef :: .undef :: .undef :: .undef :: .undef :: .undef :: .undef :: .undef :: .undef :: .undef :: .undef :: .undef :: .undef :: .undef :: .undef :: .undef :: .undef :: .undef :: .undef :: .undef :: .undef :: .undef :: .undef :: .undef :: .undef :: .undef :: .undef :: .undef :: .undef :: .undef :: .undef :: .undef :: .undef :: .undef :: .undef :: .undef :: .undef :: .undef :: .undef :: .undef :: .undef :: .undef :: .undef :: .undef :: .undef :: pad 31) []) = some v) : vcall cfg (acall cfg n) 7 [a0, a1] = some v := vcall_dig (acall_val cfg n) (cfgPrim _ _ (by decide)) F.fn7 F.ok7 rfl rfl rfl D.ok7 (by rw [env0S_pad (m := 59) (by simp) (by decide)]; exact h)
@[simp] theorem D.a7 (n : Nat) (ns : List Nat) (args : List AV) (H : Heap) : acall cfg (n + 1) ns 7 args H = callV cfg n 7 args H := acall_callV F.inl7
/- 8 augury/syns.Parse -/
def D.h8 : Hint := { nt := 50, keep := [0, 2, 3, 4, 5, 6, 7, 8, 9, 18, 19, 22, 24, 32, 33, 34, 35, 36, 37, 38, 39, 45, 48], raws := [7], cals := [], rs := [] }
noncomputable def D.s8 : S := 
  (.seq
    (.seq
      (.eff (some 2) (.alloc 29) [])
      (.sets [(4, (.val (.bool false))), (3, (.val (.int .i64 0)))]))
    (.seq
      (.sets [(7, (.ext (.call 17 [(.loc 0)]) 2)), (6, (.ext (.call 17 [(.loc 0)]) 1)), (5, (.ext (.call 17 [(.loc 0)]) 0))])
      (.seq
        (.cond (.un .not (.loc 7))
          (.seq
            (.seq
              (.seq
                (.sets [(19, (.loc 6)), (18, (.bld 29 [] []))])
                (.eff none (.store 29 (.tmp 0) (.tmp 1)) [(.loc 2), (.loc 18)]))
              (.sets [(4, (.val (.bool false))), (3, (.loc 19))]))
            .ret)
          .skip)
        (.seq
          (.seq
            (.eff (some 22) (.box 54 (.tmp 0)) [(.bld 54 [0] [(.loc 5)])])
            (.sets [(8, (.loc 22))]))
          (.seq
            (.seq
              (.cal (some 24) (.val (.fn 18 [])) [(.loc 8)])
              (.seq
                (.eff (some 9) (.alloc 29) [])
                (.eff none (.store 29 (.tmp 0) (.tmp 1)) [(.loc 9), (.loc 24)])))
            (.seq
              (.block 0
                (.cond (.bin .gtr 3 (.len 49 (.load 49 (.fa 54 (.nck (.loc 8)) 0))) (.val (.int .i64 0)))
                  (.seq
                    (.raw (regOps F.c8 7) true)
                    .ret)
                  (.cond (.load 4 (.fa 54 (.nck (.loc 8)) 1))
                    (.seq
                      (.seq
                        (.seq
                          (.sets [(48, (.len 58 (.call 19 [(.loc 0)]))), (45, (.bld 29 [] []))])
                          (.eff none (.store 29 (.tmp 0) (.tmp 1)) [(.loc 2), (.loc 45)]))
                        (.sets [(4, (.val (.bool false))), (3, (.loc 48))]))
                      .ret)
                    .skip)))
              (.seq
                (.seq
                  (.eff none (.store 29 (.tmp 0) (.tmp 1)) [(.loc 2), (.load 29 (.loc 9))])
                  (.sets [(4, (.val (.bool true))), (3, (.val (.int .i64 0)))]))
                .ret)))))))
theorem D.ok8 : digFn cfg.P cfg.inl D.h8 1 F.c8 = some D.s8 := by rw [cfgP, cfgIn]; kernel_rfl
theorem D.v8 {n : Nat} {a0 : AV} {v : AV} (h : finV cfg.P [.cell 2 29, .tmp 3, .tmp 4] (sexec cfg (acall cfg n) D.s8 [] (a0 :: .undef :: .undef :: .undef :: .undef :: .undef :: .undef :: .undef :: .undef :: .undef :: .undef :: .undef :: .undef :: .undef :: .undef :: .undef :: .undef :: .undef :: .undef :: .undef :: .undef :: .undef :: .undef :: .undef :: .undef :: .undef :: .undef :: .undef :: .undef :: .undef :: .undef :: .undef :: .undef :: .undef :: .undef :: .undef :: .undef :: .undef :: .undef :: .undef :: .undef :: .undef :: .undef :: .undef :: .undef :: .undef :: .undef :: .undef :: .undef :: pad 1) []) = some v) : vcall cfg (acall cfg n) 8 [a0] = some v := vcall_dig (acall_val cfg n) (cfgPrim _ _ (by decide)) F.fn8 F.ok8 rfl rfl rfl D.ok8 (by rw [env0S_pad (m := 49) (by simp) (by decide)]; exact h)
@[simp] theorem D.a8 (n : Nat) (ns : List Nat) (args : List AV) (H : Heap) : acall cfg (n + 1) ns 8 args H = callV cfg n 8 args H := acall_callV F.inl8
/- 9 augury/augurylaw5.awake -/
def D.h9 : Hint := { nt := 94, keep := [0, 1, 3, 4, 5, 6, 7, 8, 9, 10, 11, 12, 14, 15, 16, 19, 20, 21, 29, 30, 31, 34, 35, 36, 39, 40, 41], raws := [], cals := [], rs := [] }
noncomputable def D.s9 : S := 
  (.seq
    (.sets [(0, (.val (.bool false)))])
    (.seq
      (.seq
        (.seq
          (.seq
            (.sets [(21, (.ext (.call 8 [(.val (.str [32, 108, 111, 97, 100, 32, 114, 48, 32, 44, 91, 114, 49, 43, 32, 50, 93, 32, 59, 32, 120]))]) 2)), (20, (.ext (.call 8 [(.val (.str [32, 108, 111, 97, 100, 32, 114, 48, 32, 44, 91, 114, 49, 43, 32, 50, 93, 32, 59, 32, 120]))]) 1)), (19, (.ext (.call 8 [(.val (.str [32, 108, 111, 97, 100, 32, 114, 48, 32, 44, 91, 114, 49, 43, 32, 50, 93, 32, 59, 32, 120]))]) 0))])
            (.eff (some 1) (.alloc 29) []))
          (.eff none (.store 29 (.tmp 0) (.tmp 1)) [(.loc 1), (.loc 19)]))
        (.seq
          (.seq
            (.chk (.loc 20))
            .skip)
          (.sets [(3, (.loc 21))])))
      (.seq
        (.sets [(5, (.ext (.call 11 [(.load 29 (.loc 1))]) 1)), (4, (.ext (.call 11 [(.load 29 (.loc 1))]) 0))])
        (.seq
          (.seq
            (.seq
              (.seq
                (.sets [(31, (.ext (.call 8 [(.val (.str [97, 100, 100, 32, 114, 48, 44, 32, 114, 49]))]) 2)), (30, (.ext (.call 8 [(.val (.str [97, 100, 100, 32, 114, 48, 44, 32, 114, 49]))]) 1)), (29, (.ext (.call 8 [(.val (.str [97, 100, 100, 32, 114, 48, 44, 32, 114, 49]))]) 0))])
                (.eff (some 6) (.alloc 29) []))
              (.eff none (.store 29 (.tmp 0) (.tmp 1)) [(.loc 6), (.loc 29)]))
            (.sets [(8, (.loc 31)), (7, (.loc 30))]))
          (.seq
            (.seq
              (.seq
                (.seq
                  (.sets [(36, (.ext (.call 8 [(.val (.str [106, 109, 112, 32, 114, 49]))]) 2)), (35, (.ext (.call 8 [(.val (.str [106, 109, 112, 32, 114, 49]))]) 1)), (34, (.ext (.call 8 [(.val (.str [106, 109, 112, 32, 114, 49]))]) 0))])
                  (.eff (some 9) (.alloc 29) []))
                (.eff none (.store 29 (.tmp 0) (.tmp 1)) [(.loc 9), (.loc 34)]))
              (.sets [(11, (.loc 36)), (10, (.loc 35))]))
            (.seq
              (.seq
                (.seq
                  (.seq
                    (.sets [(41, (.ext (.call 8 [(.val (.str [109, 111, 118, 32, 114, 49, 44, 32, 53]))]) 2)), (40, (.ext (.call 8 [(.val (.str [109, 111, 118, 32, 114, 49, 44, 32, 53]))]) 1)), (39, (.ext (.call 8 [(.val (.str [109, 111, 118, 32, 114, 49, 44, 32, 53]))]) 0))])
                    (.eff (some 12) (.alloc 29) []))
                  (.eff none (.store 29 (.tmp 0) (.tmp 1)) [(.loc 12), (.loc 39)]))
                (.seq
                  (.seq
                    (.chk (.loc 40))
                    .skip)
                  (.sets [(14, (.loc 41))])))
              (.seq
                (.sets [(16, (.ext (.call 11 [(.load 29 (.loc 12))]) 1)), (15, (.ext (.call 11 [(.load 29 (.loc 12))]) 0))])
                (.seq
                  (.sets [(0, (.ite (.ite (.ite (.ite (.ite (.ite (.ite (.ite (.ite (.ite (.ite (.loc 3) (.bin .eql 3 (.load 3 (.fa 29 (.loc 1) 0)) (.val (.int .i64 7))) (.val (.bool false))) (.bin .eql 27 (.load 27 (.fa 29 (.loc 1) 4)) (.bld 27 [0, 3, 4] [(.val (.int .i64 2)), (.bld 25 [0, 1] [(.val (.bool true)), (.val (.int .i64 1))]), (.bld 25 [1] [(.val (.int .i64 2))])])) (.val (.bool false))) (.loc 5) (.val (.bool false))) (.bin .eql 9 (.loc 4) (.val (.str [108, 111, 97, 100, 32, 114, 48, 44, 32, 91, 114, 49, 32, 43, 32, 50, 93]))) (.val (.bool false))) (.un .not (.loc 8)) (.val (.bool false))) (.bin .eql 3 (.loc 7) (.val (.int .i64 10))) (.val (.bool false))) (.un .not (.loc 11)) (.val (.bool false))) (.bin .eql 3 (.loc 10) (.val (.int .i64 4))) (.val (.bool false))) (.loc 14) (.val (.bool false))) (.loc 16) (.val (.bool false))) (.bin .eql 9 (.loc 15) (.val (.str [111, 114, 32, 114, 49, 44, 32, 53, 44, 32, 48]))) (.val (.bool false))))])
                  .ret))))))))
theorem D.ok9 : digFn cfg.P cfg.inl D.h9 0 F.c9 = some D.s9 := by rw [cfgP, cfgIn]; kernel_rfl
theorem D.v9 {n : Nat} {v : AV} (h : finV cfg.P [.tmp 0] (sexec cfg (acall cfg n) D.s9 [] (.undef :: .undef :: .undef :: .undef :: .undef :: .undef :: .undef :: .undef :: .undef :: .undef :: .undef :: .undef :: .undef :: .undef :: .undef :: .undef :: .undef :: .undef :: .undef :: .undef :: .undef :: .undef :: .undef :: .undef :: .undef :: .undef :: .undef :: .undef :: .undef :: .undef :: .undef :: .undef :: .undef :: .undef :: .undef :: .undef :: .undef :: .undef :: .undef :: .undef :: .undef :: .undef :: pad 52) []) = some v) : vcall cfg (acall cfg n) 9 [] = some v := vcall_dig (acall_val cfg n) (cfgPrim _ _ (by decide)) F.fn9 F.ok9 rfl rfl rfl D.ok9 (by rw [env0S_pad (m := 42) (by simp) (by decide)]; exact h)
@[simp] theorem D.a9 (n : Nat) (ns : List Nat) (args : List AV) (H : Heap) : acall cfg (n + 1) ns 9 args H = callV cfg n 9 args H := acall_callV F.inl9
/- 10 augury/augurylaw5.SynsFields$1 -/
def D.h10 : Hint := { nt := 27, keep := [0, 1, 3, 4, 8, 9, 10, 11, 12, 13, 14, 15, 16, 17, 18, 26], raws := [2], cals := [], rs := [] }
noncomputable def D.s10 : S := 
  (.seq
    (.seq
      (.sets [(3, (.val (.str [])))])
      (.eff (some 4) (.alloc 25) []))
    (.seq
      (.cond (.bin .eql 3 (.bin .and 3 (.loc 0) (.val (.int .i64 4))) (.val (.int .i64 0)))
        (.seq
          (.raw (regOps F.c10 2) true)
          .ret)
        .skip)
      (.seq
        (.seq
          (.sets [(3, (.load 9 (.ia 34 (.load 34 (.loc 1)) (.bin .and 3 (.loc 0) (.val (.int .i64 3)))))), (26, (.bld 25 [0, 1] [(.val (.bool true)), (.bin .and 3 (.loc 0) (.val (.int .i64 3)))]))])
          (.eff none (.store 25 (.tmp 0) (.tmp 1)) [(.loc 4), (.loc 26)]))
        .ret)))
theorem D.ok10 : digFn cfg.P cfg.inl D.h10 2 F.c10 = some D.s10 := by rw [cfgP, cfgIn]; kernel_rfl
theorem D.v10 {n : Nat} {a0 a1 : AV} {v : AV} (h : finV cfg.P [.tmp 3, .cell 4 25] (sexec cfg (acall cfg n) D.s10 [] (a0 :: a1 :: .undef :: .undef :: .undef :: .undef :: .undef :: .undef :: .undef :: .undef :: .undef :: .undef :: .undef :: .undef :: .undef :: .undef :: .undef :: .undef :: .undef :: .undef :: .undef :: .undef :: .undef :: .undef :: .undef :: .undef :: .undef :: pad 0) []) = some v) : vcall cfg (acall cfg n) 10 [a0, a1] = some v := vcall_dig (acall_val cfg n) (cfgPrim _ _ (by decide)) F.fn10 F.ok10 rfl rfl rfl D.ok10 (by rw [env0S_pad (m := 27) (by simp) (by decide)]; exact h)
@[simp] theorem D.a10 (n : Nat) (ns : List Nat) (args : List AV) (H : Heap) : acall cfg (n + 1) ns 10 args H = callV cfg n 10 args H := acall_callV F.inl10
/- 11 augury/syns.Print -/
def D.h11 : Hint := { nt := 24, keep := [0, 1, 2, 3, 4, 5, 7, 13, 14, 15], raws := [], cals := [], rs := [] }
noncomputable def D.s11 : S := 
  (.seq
    (.seq
      (.eff (some 1) (.box 29 (.tmp 0)) [(.loc 0)])
      (.sets [(3, (.val (.bool false))), (2, (.val (.str [])))]))
    (.seq
      (.sets [(4, (.call 20 [(.load 29 (.loc 1))]))])
      (.seq
        (.seq
          (.seq
            (.seq
              (.seq
                (.sets [(15, (.ext (.call 8 [(.loc 4)]) 2)), (14, (.ext (.call 8 [(.loc 4)]) 1)), (13, (.ext (.call 8 [(.loc 4)]) 0))])
                (.eff (some 5) (.alloc 29) []))
              (.eff none (.store 29 (.tmp 0) (.tmp 1)) [(.loc 5), (.loc 13)]))
            (.seq
              (.seq
                (.chk (.loc 14))
                .skip)
              (.sets [(7, (.loc 15))])))
          (.cond (.ite (.un .not (.loc 7)) (.val (.bool true)) (.bin .neq 29 (.load 29 (.loc 5)) (.load 29 (.loc 1))))
            (.seq
              (.sets [(3, (.val (.bool false))), (2, (.val (.str [])))])
              .ret)
            .skip))
        (.seq
          (.sets [(3, (.val (.bool true))), (2, (.loc 4))])
          .ret))))
theorem D.ok11 : digFn cfg.P cfg.inl D.h11 1 F.c11 = some D.s11 := by rw [cfgP, cfgIn]; kernel_rfl
theorem D.v11 {n : Nat} {a0 : AV} {v : AV} (h : finV cfg.P [.tmp 2, .tmp 3] (sexec cfg (acall cfg n) D.s11 [] (a0 :: .undef :: .undef :: .undef :: .undef :: .undef :: .undef :: .undef :: .undef :: .undef :: .undef :: .undef :: .undef :: .undef :: .undef :: .undef :: pad 8) []) = some v) : vcall cfg (acall cfg n) 11 [a0] = some v := vcall_dig (acall_val cfg n) (cfgPrim _ _ (by decide)) F.fn11 F.ok11 rfl rfl rfl D.ok11 (by rw [env0S_pad (m := 16) (by simp) (by decide)]; exact h)
@[simp] theorem D.a11 (n : Nat) (ns : List Nat) (args : List AV) (H : Heap) : acall cfg (n + 1) ns 11 args H = callV cfg n 11 args H := acall_callV F.inl11
/- 12 augury/augurylaw5.SynsNone$1 -/
def D.h12 : Hint := { nt := 5, keep := [0, 1, 2], raws := [], cals := [], rs := [] }
noncomputable def D.s12 : S := 
  (.seq
    (.seq
      (.eff (some 1) (.box 27 (.tmp 0)) [(.loc 0)])
      (.eff (some 2) (.alloc 29) []))
    (.seq
      (.eff none (.store 29 (.tmp 0) (.tmp 1)) [(.loc 2), (.bld 29 [0, 4] [(.val (.int .i64 7)), (.load 27 (.loc 1))])])
      .ret))
theorem D.ok12 : digFn cfg.P cfg.inl D.h12 1 F.c12 = some D.s12 := by rw [cfgP, cfgIn]; kernel_rfl
theorem D.v12 {n : Nat} {a0 : AV} {v : AV} (h : finV cfg.P [.cell 2 29] (sexec cfg (acall cfg n) D.s12 [] (a0 :: .undef :: .undef :: pad 2) []) = some v) : vcall cfg (acall cfg n) 12 [a0] = some v := vcall_dig (acall_val cfg n) (cfgPrim _ _ (by decide)) F.fn12 F.ok12 rfl rfl rfl D.ok12 (by rw [env0S_pad (m := 3) (by simp) (by decide)]; exact h)
@[simp] theorem D.a12 (n : Nat) (ns : List Nat) (args : List AV) (H : Heap) : acall cfg (n + 1) ns 12 args H = callV cfg n 12 args H := acall_callV F.inl12
/- 13 augury/augurylaw4.Text -/
def D.h13 : Hint := { nt := 40, keep := [0, 2, 3, 4, 5, 6], raws := [], cals := [], rs := [[2, 6]] }
noncomputable def D.b13_0 : S := 
  (.seq
    (.cond (.ite (.bin .lss 3 (.loc 5) (.len 35 (.loc 0))) (.bin .lss 3 (.loc 5) (.val (.int .i64 20))) (.val (.bool false)))
      .skip
      (.exit 0))
    (.seq
      (.block 1
        (.seq
          (.sets [(4, (.bin .add 9 (.loc 4) (.load 9 (.ia 34 (.loc 3) (.bin .rem 3 (.bin .and 3 (.load 3 (.ia 35 (.loc 0) (.loc 5))) (.val (.int .i64 255))) (.len 34 (.loc 3)))))))])
          (.cond (.bin .gtr 3 (.bin .and 3 (.bin .shr 3 (.load 3 (.ia 35 (.loc 0) (.loc 5))) (.val (.int .u64 8))) (.val (.int .i64 3))) (.val (.int .i64 0)))
            (.sets [(4, (.bin .add 9 (.loc 4) (.val (.str [32]))))])
            .skip)))
      (.sets [(5, (.bin .add 3 (.loc 5) (.val (.int .i64 1))))])))
theorem D.e13_0 {C : Cfg} {call : Callee'} {ns : List Nat} {L : Env} {H : Heap} : sexec C call D.b13_0 ns L H = sexec C call
  (.seq
    (.cond (.ite (.bin .lss 3 (.loc 5) (.len 35 (.loc 0))) (.bin .lss 3 (.loc 5) (.val (.int .i64 20))) (.val (.bool false)))
      .skip
      (.exit 0))
    (.seq
      (.block 1
        (.seq
          (.sets [(4, (.bin .add 9 (.loc 4) (.load 9 (.ia 34 (.loc 3) (.bin .rem 3 (.bin .and 3 (.load 3 (.ia 35 (.loc 0) (.loc 5))) (.val (.int .i64 255))) (.len 34 (.loc 3)))))))])
          (.cond (.bin .gtr 3 (.bin .and 3 (.bin .shr 3 (.load 3 (.ia 35 (.loc 0) (.loc 5))) (.val (.int .u64 8))) (.val (.int .i64 3))) (.val (.int .i64 0)))
            (.sets [(4, (.bin .add 9 (.loc 4) (.val (.str [32]))))])
            .skip)))
      (.sets [(5, (.bin .add 3 (.loc 5) (.val (.int .i64 1))))]))) ns L H := rfl
noncomputable def D.x13_0 : List X := [(.val (.str [119, 105, 100, 116, 104])), (.val (.str [119, 105, 110, 100, 111, 119])), (.val (.str [102, 117, 101, 108])), (.val (.str [112, 117, 98, 108, 105, 99])), (.val (.str [115, 101, 99, 114, 101, 116])), (.val (.str [97, 100, 100])), (.val (.str [120, 111, 114])), (.val (.str [108, 116])), (.val (.str [109, 111, 118])), (.val (.str [108, 111, 97, 100])), (.val (.str [115, 116, 111, 114, 101])), (.val (.str [99, 109, 111, 118])), (.val (.str [98, 114])), (.val (.str [106, 109, 112])), (.val (.str [99, 97, 108, 108])), (.val (.str [105, 110, 100])), (.val (.str [114, 101, 116])), (.val (.str [102, 101, 110, 99, 101])), (.val (.str [104, 97, 108, 116])), (.val (.str [114, 48])), (.val (.str [114, 49])), (.val (.str [114, 50])), (.val (.str [114, 51])), (.val (.str [114, 52])), (.val (.str [97])), (.val (.str [108, 97, 98, 49])), (.val (.str [48])), (.val (.str [49])), (.val (.str [50])), (.val (.str [48, 55])), (.val (.str [49, 50])), (.val (.str [57, 57, 57, 57, 57])), (.val (.str [49, 50, 51, 52, 53, 54])), (.val (.str [44])), (.val (.str [58])), (.val (.str [91])), (.val (.str [93])), (.val (.str [43])), (.val (.str [59])), (.val (.str [32])), (.val (.str [32, 32])), (.val (.str [9])), (.val (.str [195, 169])), (.val (.str [255])), (.val (.str [65])), (.val (.str [45])), (.val (.str [49, 97]))]
noncomputable def D.s13 : S := 
  (.seq
    (.sets [(2, (.val (.str [])))])
    (.seq
      (.seq
        (.eff (some 6) (.buildSlice 34 47 #[(0, .tmp 0), (1, .tmp 1), (2, .tmp 2), (3, .tmp 3), (4, .tmp 4), (5, .tmp 5), (6, .tmp 6), (7, .tmp 7), (8, .tmp 8), (9, .tmp 9), (10, .tmp 10), (11, .tmp 11), (12, .tmp 12), (13, .tmp 13), (14, .tmp 14), (15, .tmp 15), (16, .tmp 16), (17, .tmp 17), (18, .tmp 18), (19, .tmp 19), (20, .tmp 20), (21, .tmp 21), (22, .tmp 22), (23, .tmp 23), (24, .tmp 24), (25, .tmp 25), (26, .tmp 26), (27, .tmp 27), (28, .tmp 28), (29, .tmp 29), (30, .tmp 30), (31, .tmp 31), (32, .tmp 32), (33, .tmp 33), (34, .tmp 34), (35, .tmp 35), (36, .tmp 36), (37, .tmp 37), (38, .tmp 38), (39, .tmp 39), (40, .tmp 40), (41, .tmp 41), (42, .tmp 42), (43, .tmp 43), (44, .tmp 44), (45, .tmp 45), (46, .tmp 46)]) D.x13_0)
        (.sets [(3, (.loc 6))]))
      (.seq
        (.sets [(4, (.val (.str [])))])
        (.seq
          (.seq
            (.sets [(5, (.val (.int .i64 0)))])
            (.block 0
              (.loop [2, 6] D.b13_0)))
          (.seq
            (.sets [(2, (.loc 4))])
            .ret)))))
theorem D.ok13 : digFn cfg.P cfg.inl D.h13 1 F.c13 = some D.s13 := by rw [cfgP, cfgIn]; kernel_rfl
theorem D.v13 {n : Nat} {a0 : AV} {v : AV} (h : finV cfg.P [.tmp 2] (sexec cfg (acall cfg n) D.s13 [] (a0 :: .undef :: .undef :: .undef :: .undef :: .undef :: .undef :: pad 33) []) = some v) : vcall cfg (acall cfg n) 13 [a0] = some v := vcall_dig (acall_val cfg n) (cfgPrim _ _ (by decide)) F.fn13 F.ok13 rfl rfl rfl D.ok13 (by rw [env0S_pad (m := 7) (by simp) (by decide)]; exact h)
@[simp] theorem D.a13 (n : Nat) (ns : List Nat) (args : List AV) (H : Heap) : acall cfg (n + 1) ns 13 args H = callV cfg n 13 args H := acall_callV F.inl13
/- 14 augury/augurylaw5.Line -/
def D.h14 : Hint := { nt := 173, keep := [0, 1, 2, 3, 4, 5, 6, 7, 8, 9, 10, 11, 13, 15, 19, 21, 26, 28, 33, 35, 40, 41, 42, 43, 44, 45, 46, 47, 137, 139, 145, 154, 163, 164, 165], raws := [], cals := [], rs := [] }
noncomputable def D.x14_0 : List X := [(.val (.str [97, 100, 100])), (.val (.str [115, 117, 98])), (.val (.str [97, 110, 100])), (.val (.str [111, 114])), (.val (.str [120, 111, 114])), (.val (.str [115, 104, 108])), (.val (.str [115, 104, 114])), (.val (.str [109, 117, 108])), (.val (.str [108, 116])), (.val (.str [101, 113])), (.val (.str [109, 111, 118]))]
noncomputable def D.x14_1 : List X := [(.bin .add 9 (.val (.str [119, 105, 100, 116, 104, 32])) (.loc 8)), (.bin .add 9 (.val (.str [119, 105, 110, 100, 111, 119, 32])) (.loc 8)), (.bin .add 9 (.val (.str [102, 117, 101, 108, 32])) (.loc 8)), (.bin .add 9 (.val (.str [112, 117, 98, 108, 105, 99, 32])) (.loc 5)), (.bin .add 9 (.val (.str [115, 101, 99, 114, 101, 116, 32])) (.loc 5)), (.bin .add 9 (.bin .add 9 (.bin .add 9 (.val (.str [112, 117, 98, 108, 105, 99, 32])) (.loc 6)) (.val (.str [32]))) (.loc 8)), (.bin .add 9 (.bin .add 9 (.bin .add 9 (.val (.str [115, 101, 99, 114, 101, 116, 32])) (.loc 6)) (.val (.str [32]))) (.loc 8)), (.bin .add 9 (.loc 6) (.val (.str [58]))), (.bin .add 9 (.bin .add 9 (.bin .add 9 (.bin .add 9 (.bin .add 9 (.bin .add 9 (.loc 7) (.val (.str [32]))) (.loc 5)) (.val (.str [44, 32]))) (.loc 9)) (.val (.str [44, 32]))) (.loc 10)), (.bin .add 9 (.bin .add 9 (.bin .add 9 (.bin .add 9 (.bin .add 9 (.bin .add 9 (.loc 7) (.val (.str [32]))) (.loc 5)) (.val (.str [44, 32]))) (.loc 9)) (.val (.str [44]))) (.loc 10)), (.bin .add 9 (.bin .add 9 (.bin .add 9 (.val (.str [109, 111, 118, 32])) (.loc 5)) (.val (.str [44, 32]))) (.loc 9)), (.bin .add 9 (.bin .add 9 (.bin .add 9 (.bin .add 9 (.bin .add 9 (.bin .add 9 (.val (.str [108, 111, 97, 100, 32])) (.loc 5)) (.val (.str [44, 32, 91]))) (.loc 9)) (.val (.str [32, 43, 32]))) (.loc 10)) (.val (.str [93]))), (.bin .add 9 (.bin .add 9 (.bin .add 9 (.bin .add 9 (.bin .add 9 (.val (.str [115, 116, 111, 114, 101, 32, 91])) (.loc 9)) (.val (.str [43]))) (.loc 10)) (.val (.str [93, 44, 32]))) (.loc 5)), (.bin .add 9 (.bin .add 9 (.bin .add 9 (.bin .add 9 (.bin .add 9 (.val (.str [99, 109, 111, 118, 32])) (.loc 5)) (.val (.str [44, 32]))) (.loc 9)) (.val (.str [44, 32]))) (.loc 10)), (.bin .add 9 (.bin .add 9 (.bin .add 9 (.bin .add 9 (.bin .add 9 (.bin .add 9 (.bin .add 9 (.val (.str [98, 114, 32])) (.loc 7)) (.val (.str [32]))) (.loc 9)) (.val (.str [44, 32]))) (.loc 10)) (.val (.str [44, 32]))) (.loc 6)), (.bin .add 9 (.val (.str [106, 109, 112, 32])) (.loc 6)), (.bin .add 9 (.val (.str [99, 97, 108, 108, 32])) (.loc 6)), (.bin .add 9 (.val (.str [105, 110, 100, 32])) (.loc 9)), (.val (.str [114, 101, 116])), (.val (.str [102, 101, 110, 99, 101])), (.val (.str [104, 97, 108, 116])), (.val (.str []))]
noncomputable def D.s14 : S := 
  (.seq
    (.seq
      (.eff (some 1) (.box 35 (.tmp 0)) [(.loc 0)])
      (.sets [(2, (.val (.str [])))]))
    (.seq
      (.sets [(3, (.mkf 21 [(.loc 1)]))])
      (.seq
        (.sets [(4, (.val (.fn 22 [])))])
        (.seq
          (.seq
            (.seq
              (.eff (some 13) (.buildSlice 34 4 #[(0, .tmp 0), (1, .tmp 1), (2, .tmp 2), (3, .tmp 3)]) [(.val (.str [114, 48])), (.val (.str [114, 49])), (.val (.str [114, 50])), (.val (.str [114, 51]))])
              (.cal (some 15) (.loc 3) [(.val (.int .i64 1))]))
            (.sets [(5, (.load 9 (.ia 34 (.loc 13) (.bin .and 3 (.loc 15) (.val (.int .i64 3))))))]))
          (.seq
            (.seq
              (.seq
                (.eff (some 19) (.buildSlice 34 6 #[(0, .tmp 0), (1, .tmp 1), (2, .tmp 2), (3, .tmp 3), (4, .tmp 4), (5, .tmp 5)]) [(.val (.str [97])), (.val (.str [108, 97, 98])), (.val (.str [114, 52])), (.val (.str [114, 48])), (.val (.str [120, 49])), (.val (.str [97, 100, 100]))])
                (.cal (some 21) (.loc 3) [(.val (.int .i64 5))]))
              (.sets [(6, (.load 9 (.ia 34 (.loc 19) (.bin .rem 3 (.bin .and 3 (.loc 21) (.val (.int .i64 255))) (.val (.int .i64 6))))))]))
            (.seq
              (.seq
                (.seq
                  (.eff (some 26) (.buildSlice 34 11 #[(0, .tmp 0), (1, .tmp 1), (2, .tmp 2), (3, .tmp 3), (4, .tmp 4), (5, .tmp 5), (6, .tmp 6), (7, .tmp 7), (8, .tmp 8), (9, .tmp 9), (10, .tmp 10)]) D.x14_0)
                  (.cal (some 28) (.loc 3) [(.val (.int .i64 2))]))
                (.sets [(7, (.load 9 (.ia 34 (.loc 26) (.bin .rem 3 (.bin .and 3 (.loc 28) (.val (.int .i64 255))) (.val (.int .i64 11))))))]))
              (.seq
                (.seq
                  (.seq
                    (.eff (some 33) (.buildSlice 34 7 #[(0, .tmp 0), (1, .tmp 1), (2, .tmp 2), (3, .tmp 3), (4, .tmp 4), (5, .tmp 5), (6, .tmp 6)]) [(.val (.str [48])), (.val (.str [49])), (.val (.str [50])), (.val (.str [51])), (.val (.str [49, 54])), (.val (.str [49, 55])), (.val (.str [49, 48, 48, 48]))])
                    (.cal (some 35) (.loc 3) [(.val (.int .i64 2))]))
                  (.sets [(8, (.load 9 (.ia 34 (.loc 33) (.bin .rem 3 (.bin .and 3 (.loc 35) (.val (.int .i64 255))) (.val (.int .i64 7))))))]))
                (.seq
                  (.seq
                    (.seq
                      (.seq
                        (.sets [(41, (.loc 3)), (40, (.loc 4))])
                        (.cal (some 42) (.loc 41) [(.val (.int .i64 3))]))
                      (.seq
                        (.cal (some 43) (.loc 40) [(.loc 42)])
                        (.seq
                          (.seq
                            (.sets [(45, (.loc 3)), (44, (.loc 4))])
                            (.cal (some 46) (.loc 45) [(.val (.int .i64 4))]))
                          (.cal (some 47) (.loc 44) [(.loc 46)]))))
                    (.sets [(10, (.loc 47)), (9, (.loc 43))]))
                  (.seq
                    (.seq
                      (.seq
                        (.eff (some 137) (.buildSlice 34 22 #[(0, .tmp 0), (1, .tmp 1), (2, .tmp 2), (3, .tmp 3), (4, .tmp 4), (5, .tmp 5), (6, .tmp 6), (7, .tmp 7), (8, .tmp 8), (9, .tmp 9), (10, .tmp 10), (11, .tmp 11), (12, .tmp 12), (13, .tmp 13), (14, .tmp 14), (15, .tmp 15), (16, .tmp 16), (17, .tmp 17), (18, .tmp 18), (19, .tmp 19), (20, .tmp 20), (21, .tmp 21)]) D.x14_1)
                        (.cal (some 139) (.loc 3) [(.val (.int .i64 0))]))
                      (.sets [(11, (.load 9 (.ia 34 (.loc 137) (.bin .rem 3 (.bin .and 3 (.loc 139) (.val (.int .i64 255))) (.val (.int .i64 22))))))]))
                    (.seq
                      (.seq
                        (.cal (some 145) (.loc 3) [(.val (.int .i64 0))])
                        (.cond (.bin .eql 3 (.bin .and 3 (.bin .shr 3 (.loc 145) (.val (.int .u64 8))) (.val (.int .i64 7))) (.val (.int .i64 0)))
                          (.sets [(11, (.bin .add 9 (.bin .add 9 (.loc 11) (.val (.str [32]))) (.loc 10)))])
                          .skip))
                      (.seq
                        (.seq
                          (.cal (some 154) (.loc 3) [(.val (.int .i64 0))])
                          (.cond (.ite (.bin .eql 3 (.bin .and 3 (.bin .shr 3 (.loc 154) (.val (.int .u64 8))) (.val (.int .i64 7))) (.val (.int .i64 1))) (.bin .gtr 3 (.len 9 (.loc 11)) (.val (.int .i64 0))) (.val (.bool false)))
                            (.seq
                              (.seq
                                (.sets [(164, (.loc 3)), (163, (.loc 11))])
                                (.cal (some 165) (.loc 164) [(.val (.int .i64 1))]))
                              (.sets [(11, (.sl 9 (.loc 163) (.val (.int .i64 0)) (.bin .rem 3 (.bin .and 3 (.bin .shr 3 (.loc 165) (.val (.int .u64 2))) (.val (.int .i64 255))) (.len 9 (.loc 11)))))]))
                            .skip))
                        (.seq
                          (.sets [(2, (.loc 11))])
                          .ret))))))))))))
theorem D.ok14 : digFn cfg.P cfg.inl D.h14 1 F.c14 = some D.s14 := by rw [cfgP, cfgIn]; kernel_rfl
theorem D.v14 {n : Nat} {a0 : AV} {v : AV} (h : finV cfg.P [.tmp 2] (sexec cfg (acall cfg n) D.s14 [] (a0 :: .undef :: .undef :: .undef :: .undef :: .undef :: .undef :: .undef :: .undef :: .undef :: .undef :: .undef :: .undef :: .undef :: .undef :: .undef :: .undef :: .undef :: .undef :: .undef :: .undef :: .undef :: .undef :: .undef :: .undef :: .undef :: .undef :: .undef :: .undef :: .undef :: .undef :: .undef :: .undef :: .undef :: .undef :: .undef :: .undef :: .undef :: .undef :: .undef :: .undef :: .undef :: .undef :: .undef :: .undef :: .undef :: .undef :: .undef :: .undef :: .undef :: .undef :: .undef :: .undef :: .undef :: .undef :: .undef :: .undef :: .undef :: .undef :: .undef :: .undef :: .undef :: .undef :: .undef :: .undef :: .undef :: .undef :: .undef :: .undef :: .undef :: .undef :: .undef :: .undef :: .undef :: .undef :: .undef :: .undef :: .undef :: .undef :: .undef :: .undef :: .undef :: .undef :: .undef :: .undef :: .undef :: .undef :: .undef :: .undef :: .undef :: .undef :: .undef :: .undef :: .undef :: .undef :: .undef :: .undef :: .undef :: .undef :: .undef :: .undef :: .undef :: .undef :: .undef :: .undef :: .undef :: .undef :: .undef :: .undef :: .undef :: .undef :: .undef :: .undef :: .undef :: .undef :: .undef :: .undef :: .undef :: .undef :: .undef :: .undef :: .undef :: .undef :: .undef :: .undef :: .undef :: .undef :: .undef :: .undef :: .undef :: .undef :: .undef :: .undef :: .undef :: .undef :: .undef :: .undef :: .undef :: .undef :: .undef :: .undef :: .undef :: .undef :: .undef :: .undef :: .undef :: .undef :: .undef :: .undef :: .undef :: .undef :: .undef :: .undef :: .undef :: .undef :: .undef :: .undef :: .undef :: .undef :: .undef :: .undef :: .undef :: .undef :: .undef :: .undef :: .undef :: pad 7) []) = some v) : vcall cfg (acall cfg n) 14 [a0] = some v := vcall_dig (acall_val cfg n) (cfgPrim _ _ (by decide)) F.fn14 F.ok14 rfl rfl rfl D.ok14 (by rw [env0S_pad (m := 166) (by simp) (by decide)]; exact h)
@[simp] theorem D.a14 (n : Nat) (ns : List Nat) (args : List AV) (H : Heap) : acall cfg (n + 1) ns 14 args H = callV cfg n 14 args H := acall_callV F.inl14
/- 15 augury/auguryref4.Parse -/
def D.h15 : Hint := { nt := 67, keep := [0, 2, 3, 4, 5, 6, 7, 8, 9, 18, 19, 29, 31, 55, 61, 62, 63, 64, 65], raws := [11], cals := [], rs := [] }
noncomputable def D.s15 : S := 
  (.seq
    (.seq
      (.eff (some 2) (.alloc 29) [])
      (.sets [(4, (.val (.bool false))), (3, (.val (.int .i64 0)))]))
    (.seq
      (.sets [(7, (.ext (.call 23 [(.loc 0)]) 2)), (6, (.ext (.call 23 [(.loc 0)]) 1)), (5, (.ext (.call 23 [(.loc 0)]) 0))])
      (.seq
        (.cond (.un .not (.loc 7))
          (.seq
            (.seq
              (.seq
                (.sets [(19, (.loc 6)), (18, (.bld 29 [] []))])
                (.eff none (.store 29 (.tmp 0) (.tmp 1)) [(.loc 2), (.loc 18)]))
              (.sets [(4, (.val (.bool false))), (3, (.loc 19))]))
            .ret)
          .skip)
        (.seq
          (.cond (.bin .eql 3 (.len 49 (.loc 5)) (.val (.int .i64 0)))
            (.seq
              (.seq
                (.eff none (.store 29 (.tmp 0) (.tmp 1)) [(.loc 2), (.bld 29 [] [])])
                (.sets [(4, (.val (.bool true))), (3, (.val (.int .i64 0)))]))
              .ret)
            .skip)
          (.seq
            (.seq
              (.eff (some 29) (.box 66 (.tmp 0)) [(.bld 66 [0, 2, 3] [(.loc 5), (.len 58 (.call 24 [(.loc 0)])), (.val (.int .i64 (-1)))])])
              (.sets [(8, (.loc 29))]))
            (.seq
              (.seq
                (.cal (some 31) (.val (.fn 25 [])) [(.loc 8)])
                (.seq
                  (.eff (some 9) (.alloc 29) [])
                  (.eff none (.store 29 (.tmp 0) (.tmp 1)) [(.loc 9), (.loc 31)])))
              (.seq
                (.cond (.ite (.bin .lss 3 (.load 3 (.fa 66 (.nck (.loc 8)) 3)) (.val (.int .i64 0))) (.bin .lss 3 (.load 3 (.fa 66 (.nck (.loc 8)) 1)) (.len 49 (.loc 5))) (.val (.bool false)))
                  (.cal (some 55) (.val (.fn 26 [])) [(.loc 8), (.load 3 (.fa 57 (.ia 49 (.loc 5) (.load 3 (.fa 66 (.nck (.loc 8)) 1))) 3))])
                  .skip)
                (.seq
                  (.cond (.bin .geq 3 (.load 3 (.fa 66 (.nck (.loc 8)) 3)) (.val (.int .i64 0)))
                    (.seq
                      (.raw (regOps F.c15 11) true)
                      .ret)
                    .skip)
                  (.seq
                    (.seq
                      (.eff none (.store 29 (.tmp 0) (.tmp 1)) [(.loc 2), (.load 29 (.loc 9))])
                      (.sets [(4, (.val (.bool true))), (3, (.val (.int .i64 0)))]))
                    .ret)))))))))
theorem D.ok15 : digFn cfg.P cfg.inl D.h15 1 F.c15 = some D.s15 := by rw [cfgP, cfgIn]; kernel_rfl
theorem D.v15 {n : Nat} {a0 : AV} {v : AV} (h : finV cfg.P [.cell 2 29, .tmp 3, .tmp 4] (sexec cfg (acall cfg n) D.s15 [] (a0 :: .undef :: .undef :: .undef :: .undef :: .undef :: .undef :: .undef :: .undef :: .undef :: .undef :: .undef :: .undef :: .undef :: .undef :: .undef :: .undef :: .undef :: .undef :: .undef :: .undef :: .undef :: .undef :: .undef :: .undef :: .undef :: .undef :: .undef :: .undef :: .undef :: .undef :: .undef :: .undef :: .undef :: .undef :: .undef :: .undef :: .undef :: .undef :: .undef :: .undef :: .undef :: .undef :: .undef :: .undef :: .undef :: .undef :: .undef :: .undef :: .undef :: .undef :: .undef :: .undef :: .undef :: .undef :: .undef :: .undef :: .undef :: .undef :: .undef :: .undef :: .undef :: .undef :: .undef :: .undef :: .undef :: pad 1) []) = some v) : vcall cfg (acall cfg n) 15 [a0] = some v := vcall_dig (acall_val cfg n) (cfgPrim _ _ (by decide)) F.fn15 F.ok15 rfl rfl rfl D.ok15 (by rw [env0S_pad (m := 66) (by simp) (by decide)]; exact h)
@[simp] theorem D.a15 (n : Nat) (ns : List Nat) (args : List AV) (H : Heap) : acall cfg (n + 1) ns 15 args H = callV cfg n 15 args H := acall_callV F.inl15
/- 16 augury/auguryref4.Print -/
def D.h16 : Hint := { nt := 24, keep := [0, 1, 2, 3, 4, 5, 7, 13, 14, 15], raws := [], cals := [], rs := [] }
noncomputable def D.s16 : S := 
  (.seq
    (.seq
      (.eff (some 1) (.box 29 (.tmp 0)) [(.loc 0)])
      (.sets [(3, (.val (.bool false))), (2, (.val (.str [])))]))
    (.seq
      (.sets [(4, (.call 27 [(.load 29 (.loc 1))]))])
      (.seq
        (.seq
          (.seq
            (.seq
              (.sets [(15, (.ext (.call 15 [(.loc 4)]) 2)), (14, (.ext (.call 15 [(.loc 4)]) 1)), (13, (.ext (.call 15 [(.loc 4)]) 0))])
              (.eff (some 5) (.alloc 29) []))
            (.eff none (.store 29 (.tmp 0) (.tmp 1)) [(.loc 5), (.loc 13)]))
          (.seq
            (.seq
              (.chk (.loc 14))
              .skip)
            (.sets [(7, (.loc 15))])))
        (.seq
          (.cond (.ite (.un .not (.loc 7)) (.val (.bool true)) (.bin .neq 29 (.load 29 (.loc 5)) (.load 29 (.loc 1))))
            (.seq
              (.sets [(3, (.val (.bool false))), (2, (.val (.str [])))])
              .ret)
            .skip)
          (.seq
            (.sets [(3, (.val (.bool true))), (2, (.loc 4))])
            .ret)))))
theorem D.ok16 : digFn cfg.P cfg.inl D.h16 1 F.c16 = some D.s16 := by rw [cfgP, cfgIn]; kernel_rfl
theorem D.v16 {n : Nat} {a0 : AV} {v : AV} (h : finV cfg.P [.tmp 2, .tmp 3] (sexec cfg (acall cfg n) D.s16 [] (a0 :: .undef :: .undef :: .undef :: .undef :: .undef :: .undef :: .undef :: .undef :: .undef :: .undef :: .undef :: .undef :: .undef :: .undef :: .undef :: pad 8) []) = some v) : vcall cfg (acall cfg n) 16 [a0] = some v := vcall_dig (acall_val cfg n) (cfgPrim _ _ (by decide)) F.fn16 F.ok16 rfl rfl rfl D.ok16 (by rw [env0S_pad (m := 16) (by simp) (by decide)]; exact h)
@[simp] theorem D.a16 (n : Nat) (ns : List Nat) (args : List AV) (H : Heap) : acall cfg (n + 1) ns 16 args H = callV cfg n 16 args H := acall_callV F.inl16
/- 17 augury/lexr.Line -/
def D.h17 : Hint := { nt := 64, keep := [0, 2, 3, 4, 5, 6, 7, 8, 9, 10, 42, 43, 44, 47, 57, 58, 59, 60, 61], raws := [], cals := [], rs := [[0, 2, 3, 4, 8, 9, 10, 42, 43, 44, 47, 57, 58, 59, 60, 61]] }
noncomputable def D.b17_0 : S := 
  (.seq
    (.cond (.ite (.bin .lss 3 (.loc 7) (.len 58 (.loc 5))) (.bin .neq 21 (.load 21 (.ia 58 (.loc 5) (.loc 7))) (.val (.int .i32 59))) (.val (.bool false)))
      .skip
      (.exit 0))
    (.block 1
      (.seq
        (.cond (.ite (.bin .eql 21 (.load 21 (.ia 58 (.loc 5) (.loc 7))) (.val (.int .i32 32))) (.val (.bool true)) (.bin .eql 21 (.load 21 (.ia 58 (.loc 5) (.loc 7))) (.val (.int .i32 9))))
          (.seq
            (.sets [(7, (.bin .add 3 (.loc 7) (.val (.int .i64 1))))])
            (.exit 1))
          .skip)
        (.seq
          (.seq
            (.seq
              (.seq
                (.sets [(44, (.ext (.call 28 [(.loc 5), (.loc 7)]) 2)), (43, (.ext (.call 28 [(.loc 5), (.loc 7)]) 1)), (42, (.ext (.call 28 [(.loc 5), (.loc 7)]) 0))])
                (.eff (some 8) (.alloc 57) []))
              (.eff none (.store 57 (.tmp 0) (.tmp 1)) [(.loc 8), (.loc 42)]))
            (.sets [(10, (.loc 44)), (9, (.loc 43))]))
          (.seq
            (.cond (.un .not (.loc 10))
              (.seq
                (.seq
                  (.seq
                    (.sets [(47, (.loc 7))])
                    (.eff (some 2) (.move (.const (.slice none 0 0))) []))
                  (.sets [(4, (.val (.bool false))), (3, (.loc 47))]))
                .ret)
              .skip)
            (.seq
              (.cond (.ite (.bin .eql 3 (.load 3 (.fa 57 (.loc 8) 0)) (.val (.int .i64 2))) (.un .not (.call 29 [(.loc 5), (.loc 9)])) (.val (.bool false)))
                (.seq
                  (.seq
                    (.seq
                      (.sets [(57, (.loc 9))])
                      (.eff (some 2) (.move (.const (.slice none 0 0))) []))
                    (.sets [(4, (.val (.bool false))), (3, (.loc 57))]))
                  .ret)
                .skip)
              (.seq
                (.seq
                  (.seq
                    (.seq
                      (.sets [(59, (.load 57 (.loc 8))), (58, (.loc 6))])
                      (.eff (some 60) (.buildSlice 49 1 #[(0, .tmp 0)]) [(.loc 59)]))
                    (.eff (some 61) (.call { callee := .builtin .append, args := #[(.tmp 0), (.tmp 1)], argTypes := #[49, 49] }) [(.loc 58), (.loc 60)]))
                  (.sets [(6, (.loc 61))]))
                (.sets [(7, (.loc 9))]))))))))
theorem D.e17_0 {C : Cfg} {call : Callee'} {ns : List Nat} {L : Env} {H : Heap} : sexec C call D.b17_0 ns L H = sexec C call
  (.seq
    (.cond (.ite (.bin .lss 3 (.loc 7) (.len 58 (.loc 5))) (.bin .neq 21 (.load 21 (.ia 58 (.loc 5) (.loc 7))) (.val (.int .i32 59))) (.val (.bool false)))
      .skip
      (.exit 0))
    (.block 1
      (.seq
        (.cond (.ite (.bin .eql 21 (.load 21 (.ia 58 (.loc 5) (.loc 7))) (.val (.int .i32 32))) (.val (.bool true)) (.bin .eql 21 (.load 21 (.ia 58 (.loc 5) (.loc 7))) (.val (.int .i32 9))))
          (.seq
            (.sets [(7, (.bin .add 3 (.loc 7) (.val (.int .i64 1))))])
            (.exit 1))
          .skip)
        (.seq
          (.seq
            (.seq
              (.seq
                (.sets [(44, (.ext (.call 28 [(.loc 5), (.loc 7)]) 2)), (43, (.ext (.call 28 [(.loc 5), (.loc 7)]) 1)), (42, (.ext (.call 28 [(.loc 5), (.loc 7)]) 0))])
                (.eff (some 8) (.alloc 57) []))
              (.eff none (.store 57 (.tmp 0) (.tmp 1)) [(.loc 8), (.loc 42)]))
            (.sets [(10, (.loc 44)), (9, (.loc 43))]))
          (.seq
            (.cond (.un .not (.loc 10))
              (.seq
                (.seq
                  (.seq
                    (.sets [(47, (.loc 7))])
                    (.eff (some 2) (.move (.const (.slice none 0 0))) []))
                  (.sets [(4, (.val (.bool false))), (3, (.loc 47))]))
                .ret)
              .skip)
            (.seq
              (.cond (.ite (.bin .eql 3 (.load 3 (.fa 57 (.loc 8) 0)) (.val (.int .i64 2))) (.un .not (.call 29 [(.loc 5), (.loc 9)])) (.val (.bool false)))
                (.seq
                  (.seq
                    (.seq
                      (.sets [(57, (.loc 9))])
                      (.eff (some 2) (.move (.const (.slice none 0 0))) []))
                    (.sets [(4, (.val (.bool false))), (3, (.loc 57))]))
                  .ret)
                .skip)
              (.seq
                (.seq
                  (.seq
                    (.seq
                      (.sets [(59, (.load 57 (.loc 8))), (58, (.loc 6))])
                      (.eff (some 60) (.buildSlice 49 1 #[(0, .tmp 0)]) [(.loc 59)]))
                    (.eff (some 61) (.call { callee := .builtin .append, args := #[(.tmp 0), (.tmp 1)], argTypes := #[49, 49] }) [(.loc 58), (.loc 60)]))
                  (.sets [(6, (.loc 61))]))
                (.sets [(7, (.loc 9))])))))))) ns L H := rfl
noncomputable def D.s17 : S := 
  (.seq
    (.seq
      (.eff (some 2) (.move (.const (.slice none 0 0))) [])
      (.sets [(4, (.val (.bool false))), (3, (.val (.int .i64 0)))]))
    (.seq
      (.sets [(5, (.call 19 [(.loc 0)]))])
      (.seq
        (.eff (some 6) (.move (.const (.slice none 0 0))) [])
        (.seq
          (.seq
            (.sets [(7, (.val (.int .i64 0)))])
            (.block 0
              (.loop [0, 2, 3, 4, 8, 9, 10, 42, 43, 44, 47, 57, 58, 59, 60, 61] D.b17_0)))
          (.seq
            (.sets [(4, (.val (.bool true))), (3, (.val (.int .i64 0))), (2, (.loc 6))])
            .ret)))))
theorem D.ok17 : digFn cfg.P cfg.inl D.h17 1 F.c17 = some D.s17 := by rw [cfgP, cfgIn]; kernel_rfl
theorem D.v17 {n : Nat} {a0 : AV} {v : AV} (h : finV cfg.P [.tmp 2, .tmp 3, .tmp 4] (sexec cfg (acall cfg n) D.s17 [] (a0 :: .undef :: .undef :: .undef :: .undef :: .undef :: .undef :: .undef :: .undef :: .undef :: .undef :: .undef :: .undef :: .undef :: .undef :: .undef :: .undef :: .undef :: .undef :: .undef :: .undef :: .undef :: .undef :: .undef :: .undef :: .undef :: .undef :: .undef :: .undef :: .undef :: .undef :: .undef :: .undef :: .undef :: .undef :: .undef :: .undef :: .undef :: .undef :: .undef :: .undef :: .undef :: .undef :: .undef :: .undef :: .undef :: .undef :: .undef :: .undef :: .undef :: .undef :: .undef :: .undef :: .undef :: .undef :: .undef :: .undef :: .undef :: .undef :: .undef :: .undef :: .undef :: pad 2) []) = some v) : vcall cfg (acall cfg n) 17 [a0] = some v := vcall_dig (acall_val cfg n) (cfgPrim _ _ (by decide)) F.fn17 F.ok17 rfl rfl rfl D.ok17 (by rw [env0S_pad (m := 62) (by simp) (by decide)]; exact h)
@[simp] theorem D.a17 (n : Nat) (ns : List Nat) (args : List AV) (H : Heap) : acall cfg (n + 1) ns 17 args H = callV cfg n 17 args H := acall_callV F.inl17
/- 18 (*augury/syns.reader).item -/
def D.h18 : Hint := { nt := 79, keep := [0, 2, 3, 5, 6, 16, 26, 28, 44, 46, 50, 55, 60, 62, 69, 74, 75, 76], raws := [], cals := [], rs := [] }
noncomputable def D.s18 : S := 
  (.seq
    (.eff (some 2) (.alloc 29) [])
    (.seq
      (.cond (.bin .eql 3 (.len 49 (.load 49 (.fa 54 (.nck (.loc 0)) 0))) (.val (.int .i64 0)))
        (.seq
          (.eff none (.store 29 (.tmp 0) (.tmp 1)) [(.loc 2), (.bld 29 [] [])])
          .ret)
        .skip)
      (.seq
        (.seq
          (.cal (some 16) (.val (.fn 30 [])) [(.loc 0), (.val (.int .i64 1))])
          (.seq
            (.eff (some 3) (.alloc 57) [])
            (.eff none (.store 57 (.tmp 0) (.tmp 1)) [(.loc 3), (.loc 16)])))
        (.seq
          (.cond (.load 4 (.fa 54 (.nck (.loc 0)) 1))
            (.seq
              (.eff none (.store 29 (.tmp 0) (.tmp 1)) [(.loc 2), (.bld 29 [] [])])
              .ret)
            .skip)
          (.seq
            (.cond (.call 31 [(.load 9 (.fa 57 (.loc 3) 1))])
              (.seq
                (.cal (some 26) (.val (.fn 32 [])) [(.loc 0), (.val (.bool true))])
                (.seq
                  (.cal (some 28) (.val (.fn 33 [])) [(.loc 0), (.val (.str [58]))])
                  (.seq
                    (.eff none (.store 29 (.tmp 0) (.tmp 1)) [(.loc 2), (.bld 29 [0, 3] [(.val (.int .i64 6)), (.load 9 (.fa 57 (.loc 3) 1))])])
                    .ret)))
              .skip)
            (.seq
              (.seq
                (.seq
                  (.seq
                    (.chk (.ext (.call 34 [(.load 9 (.fa 57 (.loc 3) 1))]) 0))
                    .skip)
                  (.sets [(5, (.ext (.call 34 [(.load 9 (.fa 57 (.loc 3) 1))]) 1))]))
                (.cond (.loc 5)
                  (.seq
                    (.eff none (.store 4 (.tmp 0) (.tmp 1)) [(.fa 54 (.nck (.loc 0)) 1), (.val (.bool true))])
                    (.seq
                      (.eff none (.store 29 (.tmp 0) (.tmp 1)) [(.loc 2), (.bld 29 [] [])])
                      .ret))
                  .skip))
              (.seq
                (.cal (some 44) (.val (.fn 32 [])) [(.loc 0), (.val (.bool true))])
                (.seq
                  (.seq
                    (.sets [(46, (.load 9 (.fa 57 (.loc 3) 1)))])
                    (.block 0
                      (.cond (.bin .eql 9 (.loc 46) (.val (.str [119, 105, 100, 116, 104])))
                        (.seq
                          (.seq
                            (.cal (some 50) (.val (.fn 35 [])) [(.loc 0)])
                            (.eff none (.store 29 (.tmp 0) (.tmp 1)) [(.loc 2), (.bld 29 [0, 1] [(.val (.int .i64 1)), (.loc 50)])]))
                          .ret)
                        (.cond (.bin .eql 9 (.loc 46) (.val (.str [119, 105, 110, 100, 111, 119])))
                          (.seq
                            (.seq
                              (.cal (some 55) (.val (.fn 35 [])) [(.loc 0)])
                              (.eff none (.store 29 (.tmp 0) (.tmp 1)) [(.loc 2), (.bld 29 [0, 1] [(.val (.int .i64 2)), (.loc 55)])]))
                            .ret)
                          (.cond (.bin .eql 9 (.loc 46) (.val (.str [102, 117, 101, 108])))
                            (.seq
                              (.seq
                                (.cal (some 60) (.val (.fn 35 [])) [(.loc 0)])
                                (.eff none (.store 29 (.tmp 0) (.tmp 1)) [(.loc 2), (.bld 29 [0, 1] [(.val (.int .i64 3)), (.loc 60)])]))
                              .ret)
                            (.seq
                              (.seq
                                (.sets [(62, (.bin .eql 9 (.loc 46) (.val (.str [112, 117, 98, 108, 105, 99]))))])
                                (.cond (.loc 62)
                                  .skip
                                  (.sets [(62, (.bin .eql 9 (.loc 46) (.val (.str [115, 101, 99, 114, 101, 116]))))])))
                              (.cond (.loc 62)
                                (.seq
                                  (.seq
                                    (.cal (some 69) (.val (.fn 36 [])) [(.loc 0), (.bin .eql 9 (.load 9 (.fa 57 (.loc 3) 1)) (.val (.str [115, 101, 99, 114, 101, 116])))])
                                    (.eff none (.store 29 (.tmp 0) (.tmp 1)) [(.loc 2), (.loc 69)]))
                                  .ret)
                                .skip)))))))
                  (.seq
                    (.seq
                      (.cal (some 74) (.val (.fn 37 [])) [(.loc 0), (.load 9 (.fa 57 (.loc 3) 1))])
                      (.seq
                        (.seq
                          (.sets [(76, (.ext (.loc 74) 1)), (75, (.ext (.loc 74) 0))])
                          (.eff (some 6) (.alloc 27) []))
                        (.eff none (.store 27 (.tmp 0) (.tmp 1)) [(.loc 6), (.loc 75)])))
                    (.seq
                      (.seq
                        (.seq
                          (.chk (.loc 76))
                          .skip)
                        (.eff none (.store 29 (.tmp 0) (.tmp 1)) [(.loc 2), (.bld 29 [0, 4] [(.val (.int .i64 7)), (.load 27 (.loc 6))])]))
                      .ret))))))))))
theorem D.ok18 : digFn cfg.P cfg.inl D.h18 1 F.c18 = some D.s18 := by rw [cfgP, cfgIn]; kernel_rfl
theorem D.i18 {n : Nat} {ns : List Nat} {a0 : AV} {H H' : Heap} {v : AV} (h : finI cfg.P [.cell 2 29] H.length (sexec cfg (acall cfg n) D.s18 (H.length :: ns) (a0 :: .undef :: .undef :: .undef :: .undef :: .undef :: .undef :: .undef :: .undef :: .undef :: .undef :: .undef :: .undef :: .undef :: .undef :: .undef :: .undef :: .undef :: .undef :: .undef :: .undef :: .undef :: .undef :: .undef :: .undef :: .undef :: .undef :: .undef :: .undef :: .undef :: .undef :: .undef :: .undef :: .undef :: .undef :: .undef :: .undef :: .undef :: .undef :: .undef :: .undef :: .undef :: .undef :: .undef :: .undef :: .undef :: .undef :: .undef :: .undef :: .undef :: .undef :: .undef :: .undef :: .undef :: .undef :: .undef :: .undef :: .undef :: .undef :: .undef :: .undef :: .undef :: .undef :: .undef :: .undef :: .undef :: .undef :: .undef :: .undef :: .undef :: .undef :: .undef :: .undef :: .undef :: .undef :: .undef :: .undef :: pad 2) H) = .ok v H') : acall cfg (n + 1) ns 18 [a0] H = .ok v H' := by
  rw [acall, F.inl18, if_pos rfl]; exact icall_dig (acall_val cfg n) F.fn18 F.ok18 rfl rfl rfl D.ok18 (by rw [env0S_pad (m := 77) (by simp) (by decide)]; exact h)
/- 19 augury/lexr.Runes -/
def D.h19 : Hint := { nt := 16, keep := [0, 2, 3, 5, 7, 8, 11, 12, 13, 14], raws := [], cals := [], rs := [[0, 2, 5, 8, 11, 12, 13, 14]] }
noncomputable def D.b19_0 : S := 
  (.seq
    (.eff (some 8) (.next (.tmp 0) true) [(.loc 7)])
    (.seq
      (.cond (.ext (.loc 8) 0)
        .skip
        (.exit 0))
      (.block 1
        (.seq
          (.sets [(5, (.ext (.loc 8) 2))])
          (.seq
            (.seq
              (.seq
                (.sets [(12, (.loc 5)), (11, (.loc 3))])
                (.eff (some 13) (.buildSlice 58 1 #[(0, .tmp 0)]) [(.loc 12)]))
              (.eff (some 14) (.call { callee := .builtin .append, args := #[(.tmp 0), (.tmp 1)], argTypes := #[58, 58] }) [(.loc 11), (.loc 13)]))
            (.sets [(3, (.loc 14))]))))))
theorem D.e19_0 {C : Cfg} {call : Callee'} {ns : List Nat} {L : Env} {H : Heap} : sexec C call D.b19_0 ns L H = sexec C call
  (.seq
    (.eff (some 8) (.next (.tmp 0) true) [(.loc 7)])
    (.seq
      (.cond (.ext (.loc 8) 0)
        .skip
        (.exit 0))
      (.block 1
        (.seq
          (.sets [(5, (.ext (.loc 8) 2))])
          (.seq
            (.seq
              (.seq
                (.sets [(12, (.loc 5)), (11, (.loc 3))])
                (.eff (some 13) (.buildSlice 58 1 #[(0, .tmp 0)]) [(.loc 12)]))
              (.eff (some 14) (.call { callee := .builtin .append, args := #[(.tmp 0), (.tmp 1)], argTypes := #[58, 58] }) [(.loc 11), (.loc 13)]))
            (.sets [(3, (.loc 14))])))))) ns L H := rfl
noncomputable def D.s19 : S := 
  (.seq
    (.eff (some 2) (.move (.const (.slice none 0 0))) [])
    (.seq
      (.eff (some 3) (.move (.const (.slice none 0 0))) [])
      (.seq
        (.seq
          (.eff (some 7) (.range 9 (.tmp 0)) [(.loc 0)])
          (.block 0
            (.loop [0, 2, 5, 8, 11, 12, 13, 14] D.b19_0)))
        (.seq
          (.sets [(2, (.loc 3))])
          .ret))))
theorem D.ok19 : digFn cfg.P cfg.inl D.h19 1 F.c19 = some D.s19 := by rw [cfgP, cfgIn]; kernel_rfl
theorem D.v19 {n : Nat} {a0 : AV} {v : AV} (h : finV cfg.P [.tmp 2] (sexec cfg (acall cfg n) D.s19 [] (a0 :: .undef :: .undef :: .undef :: .undef :: .undef :: .undef :: .undef :: .undef :: .undef :: .undef :: .undef :: .undef :: .undef :: .undef :: pad 1) []) = some v) : vcall cfg (acall cfg n) 19 [a0] = some v := vcall_dig (acall_val cfg n) (cfgPrim _ _ (by decide)) F.fn19 F.ok19 rfl rfl rfl D.ok19 (by rw [env0S_pad (m := 15) (by simp) (by decide)]; exact h)
@[simp] theorem D.a19 (n : Nat) (ns : List Nat) (args : List AV) (H : Heap) : acall cfg (n + 1) ns 19 args H = callV cfg n 19 args H := acall_callV F.inl19
/- 20 augury/syns.text -/
def D.h20 : Hint := { nt := 57, keep := [0, 1, 2, 3, 7], raws := [], cals := [], rs := [] }
noncomputable def D.s20 : S := 
  (.seq
    (.seq
      (.eff (some 1) (.box 29 (.tmp 0)) [(.loc 0)])
      (.sets [(2, (.val (.str [])))]))
    (.seq
      (.sets [(3, (.val (.str [112, 117, 98, 108, 105, 99, 32])))])
      (.seq
        (.cond (.load 4 (.fa 29 (.loc 1) 2))
          (.sets [(3, (.val (.str [115, 101, 99, 114, 101, 116, 32])))])
          .skip)
        (.seq
          (.seq
            (.sets [(7, (.load 3 (.fa 29 (.loc 1) 0)))])
            (.block 0
              (.cond (.bin .eql 3 (.loc 7) (.val (.int .i64 0)))
                (.seq
                  (.sets [(2, (.val (.str [])))])
                  .ret)
                (.cond (.bin .eql 3 (.loc 7) (.val (.int .i64 1)))
                  (.seq
                    (.sets [(2, (.bin .add 9 (.val (.str [119, 105, 100, 116, 104, 32])) (.call 38 [(.load 3 (.fa 29 (.loc 1) 1))])))])
                    .ret)
                  (.cond (.bin .eql 3 (.loc 7) (.val (.int .i64 2)))
                    (.seq
                      (.sets [(2, (.bin .add 9 (.val (.str [119, 105, 110, 100, 111, 119, 32])) (.call 38 [(.load 3 (.fa 29 (.loc 1) 1))])))])
                      .ret)
                    (.cond (.bin .eql 3 (.loc 7) (.val (.int .i64 3)))
                      (.seq
                        (.sets [(2, (.bin .add 9 (.val (.str [102, 117, 101, 108, 32])) (.call 38 [(.load 3 (.fa 29 (.loc 1) 1))])))])
                        .ret)
                      (.cond (.bin .eql 3 (.loc 7) (.val (.int .i64 4)))
                        (.seq
                          (.sets [(2, (.bin .add 9 (.loc 3) (.call 39 [(.load 3 (.fa 27 (.fa 29 (.loc 1) 4) 2))])))])
                          .ret)
                        (.cond (.bin .eql 3 (.loc 7) (.val (.int .i64 5)))
                          (.seq
                            (.sets [(2, (.bin .add 9 (.bin .add 9 (.bin .add 9 (.loc 3) (.load 9 (.fa 29 (.loc 1) 3))) (.val (.str [32]))) (.call 38 [(.load 3 (.fa 29 (.loc 1) 1))])))])
                            .ret)
                          (.cond (.bin .eql 3 (.loc 7) (.val (.int .i64 6)))
                            (.seq
                              (.sets [(2, (.bin .add 9 (.load 9 (.fa 29 (.loc 1) 3)) (.val (.str [58]))))])
                              .ret)
                            (.cond (.bin .eql 3 (.loc 7) (.val (.int .i64 7)))
                              (.seq
                                (.sets [(2, (.call 40 [(.load 27 (.fa 29 (.loc 1) 4))]))])
                                .ret)
                              .skip))))))))))
          (.seq
            (.sets [(2, (.val (.str [63])))])
            .ret)))))
theorem D.ok20 : digFn cfg.P cfg.inl D.h20 1 F.c20 = some D.s20 := by rw [cfgP, cfgIn]; kernel_rfl
theorem D.v20 {n : Nat} {a0 : AV} {v : AV} (h : finV cfg.P [.tmp 2] (sexec cfg (acall cfg n) D.s20 [] (a0 :: .undef :: .undef :: .undef :: .undef :: .undef :: .undef :: .undef :: pad 49) []) = some v) : vcall cfg (acall cfg n) 20 [a0] = some v := vcall_dig (acall_val cfg n) (cfgPrim _ _ (by decide)) F.fn20 F.ok20 rfl rfl rfl D.ok20 (by rw [env0S_pad (m := 8) (by simp) (by decide)]; exact h)
@[simp] theorem D.a20 (n : Nat) (ns : List Nat) (args : List AV) (H : Heap) : acall cfg (n + 1) ns 20 args H = callV cfg n 20 args H := acall_callV F.inl20
/- 21 augury/augurylaw5.Line$1 -/
def D.h21 : Hint := { nt := 12, keep := [0, 1, 3], raws := [], cals := [], rs := [] }
noncomputable def D.s21 : S := 
  (.seq
    (.sets [(3, (.val (.int .i64 0)))])
    (.seq
      (.cond (.bin .lss 3 (.loc 0) (.len 35 (.load 35 (.loc 1))))
        (.seq
          (.sets [(3, (.load 3 (.ia 35 (.load 35 (.loc 1)) (.loc 0))))])
          .ret)
        .skip)
      (.seq
        (.sets [(3, (.val (.int .i64 0)))])
        .ret)))
theorem D.ok21 : digFn cfg.P cfg.inl D.h21 2 F.c21 = some D.s21 := by rw [cfgP, cfgIn]; kernel_rfl
theorem D.v21 {n : Nat} {a0 a1 : AV} {v : AV} (h : finV cfg.P [.tmp 3] (sexec cfg (acall cfg n) D.s21 [] (a0 :: a1 :: .undef :: .undef :: pad 8) []) = some v) : vcall cfg (acall cfg n) 21 [a0, a1] = some v := vcall_dig (acall_val cfg n) (cfgPrim _ _ (by decide)) F.fn21 F.ok21 rfl rfl rfl D.ok21 (by rw [env0S_pad (m := 4) (by simp) (by decide)]; exact h)
@[simp] theorem D.a21 (n : Nat) (ns : List Nat) (args : List AV) (H : Heap) : acall cfg (n + 1) ns 21 args H = callV cfg n 21 args H := acall_callV F.inl21
/- 22 augury/augurylaw5.Line$2 -/
def D.h22 : Hint := { nt := 9, keep := [0, 2, 3], raws := [], cals := [], rs := [] }
noncomputable def D.x22_0 : List X := [(.val (.str [114, 48])), (.val (.str [114, 49])), (.val (.str [114, 50])), (.val (.str [114, 51])), (.val (.str [48])), (.val (.str [49])), (.val (.str [50])), (.val (.str [51])), (.val (.str [49, 53])), (.val (.str [55, 48, 48, 48, 48])), (.val (.str [114, 52])), (.val (.str [44]))]
noncomputable def D.s22 : S := 
  (.seq
    (.sets [(2, (.val (.str [])))])
    (.seq
      (.seq
        (.eff (some 3) (.buildSlice 34 12 #[(0, .tmp 0), (1, .tmp 1), (2, .tmp 2), (3, .tmp 3), (4, .tmp 4), (5, .tmp 5), (6, .tmp 6), (7, .tmp 7), (8, .tmp 8), (9, .tmp 9), (10, .tmp 10), (11, .tmp 11)]) D.x22_0)
        (.sets [(2, (.load 9 (.ia 34 (.loc 3) (.bin .rem 3 (.bin .and 3 (.loc 0) (.val (.int .i64 255))) (.val (.int .i64 12))))))]))
      .ret))
theorem D.ok22 : digFn cfg.P cfg.inl D.h22 1 F.c22 = some D.s22 := by rw [cfgP, cfgIn]; kernel_rfl
theorem D.v22 {n : Nat} {a0 : AV} {v : AV} (h : finV cfg.P [.tmp 2] (sexec cfg (acall cfg n) D.s22 [] (a0 :: .undef :: .undef :: .undef :: pad 5) []) = some v) : vcall cfg (acall cfg n) 22 [a0] = some v := vcall_dig (acall_val cfg n) (cfgPrim _ _ (by decide)) F.fn22 F.ok22 rfl rfl rfl D.ok22 (by rw [env0S_pad (m := 4) (by simp) (by decide)]; exact h)
@[simp] theorem D.a22 (n : Nat) (ns : List Nat) (args : List AV) (H : Heap) : acall cfg (n + 1) ns 22 args H = callV cfg n 22 args H := acall_callV F.inl22
/- 23 augury/auguryref4.Line -/
def D.h23 : Hint := { nt := 133, keep := [0, 2, 3, 4, 5, 6, 7, 8, 9, 10, 11, 12, 30, 64, 71, 72, 73, 87, 88, 96, 97, 98, 119, 127, 128, 129], raws := [], cals := [], rs := [[0, 2, 3, 4, 8, 9, 10, 11, 12, 30, 64, 71, 72, 73, 87, 88, 96, 97, 98, 119, 127, 128, 129], [0, 2, 3, 4, 8, 10, 11, 12, 30, 64, 71, 72, 73, 87, 88, 96, 97, 98, 119, 127, 128, 129]] }
noncomputable def D.b23_1 : S := 
  (.seq
    (.cond (.ite (.bin .lss 3 (.loc 9) (.len 58 (.loc 5))) (.ite (.call 41 [(.load 21 (.ia 58 (.loc 5) (.loc 9)))]) (.val (.bool true)) (.call 42 [(.load 21 (.ia 58 (.loc 5) (.loc 9)))])) (.val (.bool false)))
      .skip
      (.exit 3))
    (.block 4
      (.sets [(9, (.bin .add 3 (.loc 9) (.val (.int .i64 1))))])))
theorem D.e23_1 {C : Cfg} {call : Callee'} {ns : List Nat} {L : Env} {H : Heap} : sexec C call D.b23_1 ns L H = sexec C call
  (.seq
    (.cond (.ite (.bin .lss 3 (.loc 9) (.len 58 (.loc 5))) (.ite (.call 41 [(.load 21 (.ia 58 (.loc 5) (.loc 9)))]) (.val (.bool true)) (.call 42 [(.load 21 (.ia 58 (.loc 5) (.loc 9)))])) (.val (.bool false)))
      .skip
      (.exit 3))
    (.block 4
      (.sets [(9, (.bin .add 3 (.loc 9) (.val (.int .i64 1))))]))) ns L H := rfl
noncomputable def D.b23_0 : S := 
  (.seq
    (.cond (.ite (.bin .lss 3 (.loc 7) (.len 58 (.loc 5))) (.bin .neq 21 (.load 21 (.ia 58 (.loc 5) (.loc 7))) (.val (.int .i32 59))) (.val (.bool false)))
      .skip
      (.exit 0))
    (.block 1
      (.seq
        (.sets [(8, (.load 21 (.ia 58 (.loc 5) (.loc 7))))])
        (.block 2
          (.cond (.ite (.bin .eql 21 (.loc 8) (.val (.int .i32 32))) (.val (.bool true)) (.bin .eql 21 (.loc 8) (.val (.int .i32 9))))
            (.sets [(7, (.bin .add 3 (.loc 7) (.val (.int .i64 1))))])
            (.cond (.call 41 [(.loc 8)])
              (.seq
                (.sets [(9, (.loc 7))])
                (.seq
                  (.block 3
                    (.loop [0, 2, 3, 4, 8, 10, 11, 12, 30, 64, 71, 72, 73, 87, 88, 96, 97, 98, 119, 127, 128, 129] D.b23_1))
                  (.seq
                    (.seq
                      (.seq
                        (.seq
                          (.sets [(71, (.bld 57 [0, 1, 3] [(.val (.int .i64 1)), (.conv 58 9 (.sl 58 (.loc 5) (.loc 7) (.loc 9))), (.loc 7)])), (64, (.loc 6))])
                          (.eff (some 72) (.buildSlice 49 1 #[(0, .tmp 0)]) [(.loc 71)]))
                        (.eff (some 73) (.call { callee := .builtin .append, args := #[(.tmp 0), (.tmp 1)], argTypes := #[49, 49] }) [(.loc 64), (.loc 72)]))
                      (.sets [(6, (.loc 73))]))
                    (.sets [(7, (.loc 9))]))))
              (.cond (.call 42 [(.loc 8)])
                (.seq
                  (.sets [(12, (.ext (.call 43 [(.loc 5), (.loc 7), (.val (.int .i64 5))]) 2)), (11, (.ext (.call 43 [(.loc 5), (.loc 7), (.val (.int .i64 5))]) 1)), (10, (.ext (.call 43 [(.loc 5), (.loc 7), (.val (.int .i64 5))]) 0))])
                  (.seq
                    (.cond (.un .not (.loc 12))
                      (.seq
                        (.seq
                          (.seq
                            (.sets [(87, (.loc 10))])
                            (.eff (some 2) (.move (.const (.slice none 0 0))) []))
                          (.sets [(4, (.val (.bool false))), (3, (.loc 87))]))
                        .ret)
                      .skip)
                    (.seq
                      (.seq
                        (.seq
                          (.seq
                            (.sets [(96, (.bld 57 [0, 1, 2, 3] [(.val (.int .i64 2)), (.conv 58 9 (.sl 58 (.loc 5) (.loc 7) (.loc 10))), (.loc 11), (.loc 7)])), (88, (.loc 6))])
                            (.eff (some 97) (.buildSlice 49 1 #[(0, .tmp 0)]) [(.loc 96)]))
                          (.eff (some 98) (.call { callee := .builtin .append, args := #[(.tmp 0), (.tmp 1)], argTypes := #[49, 49] }) [(.loc 88), (.loc 97)]))
                        (.sets [(6, (.loc 98))]))
                      (.sets [(7, (.loc 10))]))))
                (.cond (.ite (.ite (.ite (.ite (.bin .eql 21 (.loc 8) (.val (.int .i32 44))) (.val (.bool true)) (.bin .eql 21 (.loc 8) (.val (.int .i32 58)))) (.val (.bool true)) (.bin .eql 21 (.loc 8) (.val (.int .i32 91)))) (.val (.bool true)) (.bin .eql 21 (.loc 8) (.val (.int .i32 93)))) (.val (.bool true)) (.bin .eql 21 (.loc 8) (.val (.int .i32 43))))
                  (.seq
                    (.seq
                      (.seq
                        (.seq
                          (.sets [(127, (.bld 57 [0, 1, 3] [(.val (.int .i64 3)), (.conv 58 9 (.sl 58 (.loc 5) (.loc 7) (.bin .add 3 (.loc 7) (.val (.int .i64 1))))), (.loc 7)])), (119, (.loc 6))])
                          (.eff (some 128) (.buildSlice 49 1 #[(0, .tmp 0)]) [(.loc 127)]))
                        (.eff (some 129) (.call { callee := .builtin .append, args := #[(.tmp 0), (.tmp 1)], argTypes := #[49, 49] }) [(.loc 119), (.loc 128)]))
                      (.sets [(6, (.loc 129))]))
                    (.sets [(7, (.bin .add 3 (.loc 7) (.val (.int .i64 1))))]))
                  (.seq
                    (.seq
                      (.seq
                        (.sets [(30, (.loc 7))])
                        (.eff (some 2) (.move (.const (.slice none 0 0))) []))
                      (.sets [(4, (.val (.bool false))), (3, (.loc 30))]))
                    .ret)))))))))
theorem D.e23_0 {C : Cfg} {call : Callee'} {ns : List Nat} {L : Env} {H : Heap} : sexec C call D.b23_0 ns L H = sexec C call
  (.seq
    (.cond (.ite (.bin .lss 3 (.loc 7) (.len 58 (.loc 5))) (.bin .neq 21 (.load 21 (.ia 58 (.loc 5) (.loc 7))) (.val (.int .i32 59))) (.val (.bool false)))
      .skip
      (.exit 0))
    (.block 1
      (.seq
        (.sets [(8, (.load 21 (.ia 58 (.loc 5) (.loc 7))))])
        (.block 2
          (.cond (.ite (.bin .eql 21 (.loc 8) (.val (.int .i32 32))) (.val (.bool true)) (.bin .eql 21 (.loc 8) (.val (.int .i32 9))))
            (.sets [(7, (.bin .add 3 (.loc 7) (.val (.int .i64 1))))])
            (.cond (.call 41 [(.loc 8)])
              (.seq
                (.sets [(9, (.loc 7))])
                (.seq
                  (.block 3
                    (.loop [0, 2, 3, 4, 8, 10, 11, 12, 30, 64, 71, 72, 73, 87, 88, 96, 97, 98, 119, 127, 128, 129] D.b23_1))
                  (.seq
                    (.seq
                      (.seq
                        (.seq
                          (.sets [(71, (.bld 57 [0, 1, 3] [(.val (.int .i64 1)), (.conv 58 9 (.sl 58 (.loc 5) (.loc 7) (.loc 9))), (.loc 7)])), (64, (.loc 6))])
                          (.eff (some 72) (.buildSlice 49 1 #[(0, .tmp 0)]) [(.loc 71)]))
                        (.eff (some 73) (.call { callee := .builtin .append, args := #[(.tmp 0), (.tmp 1)], argTypes := #[49, 49] }) [(.loc 64), (.loc 72)]))
                      (.sets [(6, (.loc 73))]))
                    (.sets [(7, (.loc 9))]))))
              (.cond (.call 42 [(.loc 8)])
                (.seq
                  (.sets [(12, (.ext (.call 43 [(.loc 5), (.loc 7), (.val (.int .i64 5))]) 2)), (11, (.ext (.call 43 [(.loc 5), (.loc 7), (.val (.int .i64 5))]) 1)), (10, (.ext (.call 43 [(.loc 5), (.loc 7), (.val (.int .i64 5))]) 0))])
                  (.seq
                    (.cond (.un .not (.loc 12))
                      (.seq
                        (.seq
                          (.seq
                            (.sets [(87, (.loc 10))])
                            (.eff (some 2) (.move (.const (.slice none 0 0))) []))
                          (.sets [(4, (.val (.bool false))), (3, (.loc 87))]))
                        .ret)
                      .skip)
                    (.seq
                      (.seq
                        (.seq
                          (.seq
                            (.sets [(96, (.bld 57 [0, 1, 2, 3] [(.val (.int .i64 2)), (.conv 58 9 (.sl 58 (.loc 5) (.loc 7) (.loc 10))), (.loc 11), (.loc 7)])), (88, (.loc 6))])
                            (.eff (some 97) (.buildSlice 49 1 #[(0, .tmp 0)]) [(.loc 96)]))
                          (.eff (some 98) (.call { callee := .builtin .append, args := #[(.tmp 0), (.tmp 1)], argTypes := #[49, 49] }) [(.loc 88), (.loc 97)]))
                        (.sets [(6, (.loc 98))]))
                      (.sets [(7, (.loc 10))]))))
                (.cond (.ite (.ite (.ite (.ite (.bin .eql 21 (.loc 8) (.val (.int .i32 44))) (.val (.bool true)) (.bin .eql 21 (.loc 8) (.val (.int .i32 58)))) (.val (.bool true)) (.bin .eql 21 (.loc 8) (.val (.int .i32 91)))) (.val (.bool true)) (.bin .eql 21 (.loc 8) (.val (.int .i32 93)))) (.val (.bool true)) (.bin .eql 21 (.loc 8) (.val (.int .i32 43))))
                  (.seq
                    (.seq
                      (.seq
                        (.seq
                          (.sets [(127, (.bld 57 [0, 1, 3] [(.val (.int .i64 3)), (.conv 58 9 (.sl 58 (.loc 5) (.loc 7) (.bin .add 3 (.loc 7) (.val (.int .i64 1))))), (.loc 7)])), (119, (.loc 6))])
                          (.eff (some 128) (.buildSlice 49 1 #[(0, .tmp 0)]) [(.loc 127)]))
                        (.eff (some 129) (.call { callee := .builtin .append, args := #[(.tmp 0), (.tmp 1)], argTypes := #[49, 49] }) [(.loc 119), (.loc 128)]))
                      (.sets [(6, (.loc 129))]))
                    (.sets [(7, (.bin .add 3 (.loc 7) (.val (.int .i64 1))))]))
                  (.seq
                    (.seq
                      (.seq
                        (.sets [(30, (.loc 7))])
                        (.eff (some 2) (.move (.const (.slice none 0 0))) []))
                      (.sets [(4, (.val (.bool false))), (3, (.loc 30))]))
                    .ret))))))))) ns L H := rfl
noncomputable def D.s23 : S := 
  (.seq
    (.seq
      (.eff (some 2) (.move (.const (.slice none 0 0))) [])
      (.sets [(4, (.val (.bool false))), (3, (.val (.int .i64 0)))]))
    (.seq
      (.sets [(5, (.call 24 [(.loc 0)]))])
      (.seq
        (.eff (some 6) (.move (.const (.slice none 0 0))) [])
        (.seq
          (.seq
            (.sets [(7, (.val (.int .i64 0)))])
            (.block 0
              (.loop [0, 2, 3, 4, 8, 9, 10, 11, 12, 30, 64, 71, 72, 73, 87, 88, 96, 97, 98, 119, 127, 128, 129] D.b23_0)))
          (.seq
            (.sets [(4, (.val (.bool true))), (3, (.val (.int .i64 0))), (2, (.loc 6))])
            .ret)))))
theorem D.ok23 : digFn cfg.P cfg.inl D.h23 1 F.c23 = some D.s23 := by rw [cfgP, cfgIn]; kernel_rfl
theorem D.v23 {n : Nat} {a0 : AV} {v : AV} (h : finV cfg.P [.tmp 2, .tmp 3, .tmp 4] (sexec cfg (acall cfg n) D.s23 [] (a0 :: .undef :: .undef :: .undef :: .undef :: .undef :: .undef :: .undef :: .undef :: .undef :: .undef :: .undef :: .undef :: .undef :: .undef :: .undef :: .undef :: .undef :: .undef :: .undef :: .undef :: .undef :: .undef :: .undef :: .undef :: .undef :: .undef :: .undef :: .undef :: .undef :: .undef :: .undef :: .undef :: .undef :: .undef :: .undef :: .undef :: .undef :: .undef :: .undef :: .undef :: .undef :: .undef :: .undef :: .undef :: .undef :: .undef :: .undef :: .undef :: .undef :: .undef :: .undef :: .undef :: .undef :: .undef :: .undef :: .undef :: .undef :: .undef :: .undef :: .undef :: .undef :: .undef :: .undef :: .undef :: .undef :: .undef :: .undef :: .undef :: .undef :: .undef :: .undef :: .undef :: .undef :: .undef :: .undef :: .undef :: .undef :: .undef :: .undef :: .undef :: .undef :: .undef :: .undef :: .undef :: .undef :: .undef :: .undef :: .undef :: .undef :: .undef :: .undef :: .undef :: .undef :: .undef :: .undef :: .undef :: .undef :: .undef :: .undef :: .undef :: .undef :: .undef :: .undef :: .undef :: .undef :: .undef :: .undef :: .undef :: .undef :: .undef :: .undef :: .undef :: .undef :: .undef :: .undef :: .undef :: .undef :: .undef :: .undef :: .undef :: .undef :: .undef :: .undef :: .undef :: .undef :: .undef :: .undef :: .undef :: .undef :: pad 3) []) = some v) : vcall cfg (acall cfg n) 23 [a0] = some v := vcall_dig (acall_val cfg n) (cfgPrim _ _ (by decide)) F.fn23 F.ok23 rfl rfl rfl D.ok23 (by rw [env0S_pad (m := 130) (by simp) (by decide)]; exact h)
@[simp] theorem D.a23 (n : Nat) (ns : List Nat) (args : List AV) (H : Heap) : acall cfg (n + 1) ns 23 args H = callV cfg n 23 args H := acall_callV F.inl23
/- 24 augury/auguryref4.Signs -/
def D.h24 : Hint := { nt := 16, keep := [0, 2, 3, 5, 7, 8, 11, 12, 13, 14], raws := [], cals := [], rs := [[0, 2, 5, 8, 11, 12, 13, 14]] }
noncomputable def D.b24_0 : S := 
  (.seq
    (.eff (some 8) (.next (.tmp 0) true) [(.loc 7)])
    (.seq
      (.cond (.ext (.loc 8) 0)
        .skip
        (.exit 0))
      (.block 1
        (.seq
          (.sets [(5, (.ext (.loc 8) 2))])
          (.seq
            (.seq
              (.seq
                (.sets [(12, (.loc 5)), (11, (.loc 3))])
                (.eff (some 13) (.buildSlice 58 1 #[(0, .tmp 0)]) [(.loc 12)]))
              (.eff (some 14) (.call { callee := .builtin .append, args := #[(.tmp 0), (.tmp 1)], argTypes := #[58, 58] }) [(.loc 11), (.loc 13)]))
            (.sets [(3, (.loc 14))]))))))
theorem D.e24_0 {C : Cfg} {call : Callee'} {ns : List Nat} {L : Env} {H : Heap} : sexec C call D.b24_0 ns L H = sexec C call
  (.seq
    (.eff (some 8) (.next (.tmp 0) true) [(.loc 7)])
    (.seq
      (.cond (.ext (.loc 8) 0)
        .skip
        (.exit 0))
      (.block 1
        (.seq
          (.sets [(5, (.ext (.loc 8) 2))])
          (.seq
            (.seq
              (.seq
                (.sets [(12, (.loc 5)), (11, (.loc 3))])
                (.eff (some 13) (.buildSlice 58 1 #[(0, .tmp 0)]) [(.loc 12)]))
              (.eff (some 14) (.call { callee := .builtin .append, args := #[(.tmp 0), (.tmp 1)], argTypes := #[58, 58] }) [(.loc 11), (.loc 13)]))
            (.sets [(3, (.loc 14))])))))) ns L H := rfl
noncomputable def D.s24 : S := 
  (.seq
    (.eff (some 2) (.move (.const (.slice none 0 0))) [])
    (.seq
      (.eff (some 3) (.move (.const (.slice none 0 0))) [])
      (.seq
        (.seq
          (.eff (some 7) (.range 9 (.tmp 0)) [(.loc 0)])
          (.block 0
            (.loop [0, 2, 5, 8, 11, 12, 13, 14] D.b24_0)))
        (.seq
          (.sets [(2, (.loc 3))])
          .ret))))
theorem D.ok24 : digFn cfg.P cfg.inl D.h24 1 F.c24 = some D.s24 := by rw [cfgP, cfgIn]; kernel_rfl
theorem D.v24 {n : Nat} {a0 : AV} {v : AV} (h : finV cfg.P [.tmp 2] (sexec cfg (acall cfg n) D.s24 [] (a0 :: .undef :: .undef :: .undef :: .undef :: .undef :: .undef :: .undef :: .undef :: .undef :: .undef :: .undef :: .undef :: .undef :: .undef :: pad 1) []) = some v) : vcall cfg (acall cfg n) 24 [a0] = some v := vcall_dig (acall_val cfg n) (cfgPrim _ _ (by decide)) F.fn24 F.ok24 rfl rfl rfl D.ok24 (by rw [env0S_pad (m := 15) (by simp) (by decide)]; exact h)
@[simp] theorem D.a24 (n : Nat) (ns : List Nat) (args : List AV) (H : Heap) : acall cfg (n + 1) ns 24 args H = callV cfg n 24 args H := acall_callV F.inl24
/- 25 (*augury/auguryref4.line).item -/
def D.h25 : Hint := { nt := 57, keep := [0, 2, 3, 5, 18, 21, 25, 30, 35, 37, 44, 50, 53], raws := [], cals := [], rs := [] }
noncomputable def D.s25 : S := 
  (.seq
    (.eff (some 2) (.alloc 29) [])
    (.seq
      (.seq
        (.cal (some 5) (.val (.fn 44 [])) [(.loc 0)])
        (.seq
          (.eff (some 3) (.alloc 57) [])
          (.eff none (.store 57 (.tmp 0) (.tmp 1)) [(.loc 3), (.loc 5)])))
      (.seq
        (.cond (.ite (.bin .neq 3 (.load 3 (.fa 57 (.loc 3) 0)) (.val (.int .i64 1))) (.val (.bool true)) (.bin .geq 3 (.call 45 [(.load 9 (.fa 57 (.loc 3) 1))]) (.val (.int .i64 0))))
          (.seq
            (.cal (some 18) (.val (.fn 26 [])) [(.loc 0), (.load 3 (.fa 57 (.loc 3) 3))])
            (.seq
              (.eff none (.store 29 (.tmp 0) (.tmp 1)) [(.loc 2), (.bld 29 [] [])])
              .ret))
          .skip)
        (.seq
          (.seq
            (.sets [(21, (.load 9 (.fa 57 (.loc 3) 1)))])
            (.block 0
              (.cond (.bin .eql 9 (.loc 21) (.val (.str [119, 105, 100, 116, 104])))
                (.seq
                  (.seq
                    (.cal (some 25) (.val (.fn 46 [])) [(.loc 0)])
                    (.eff none (.store 29 (.tmp 0) (.tmp 1)) [(.loc 2), (.bld 29 [0, 1] [(.val (.int .i64 1)), (.loc 25)])]))
                  .ret)
                (.cond (.bin .eql 9 (.loc 21) (.val (.str [119, 105, 110, 100, 111, 119])))
                  (.seq
                    (.seq
                      (.cal (some 30) (.val (.fn 46 [])) [(.loc 0)])
                      (.eff none (.store 29 (.tmp 0) (.tmp 1)) [(.loc 2), (.bld 29 [0, 1] [(.val (.int .i64 2)), (.loc 30)])]))
                    .ret)
                  (.cond (.bin .eql 9 (.loc 21) (.val (.str [102, 117, 101, 108])))
                    (.seq
                      (.seq
                        (.cal (some 35) (.val (.fn 46 [])) [(.loc 0)])
                        (.eff none (.store 29 (.tmp 0) (.tmp 1)) [(.loc 2), (.bld 29 [0, 1] [(.val (.int .i64 3)), (.loc 35)])]))
                      .ret)
                    (.seq
                      (.seq
                        (.sets [(37, (.bin .eql 9 (.loc 21) (.val (.str [112, 117, 98, 108, 105, 99]))))])
                        (.cond (.loc 37)
                          .skip
                          (.sets [(37, (.bin .eql 9 (.loc 21) (.val (.str [115, 101, 99, 114, 101, 116]))))])))
                      (.cond (.loc 37)
                        (.seq
                          (.seq
                            (.cal (some 44) (.val (.fn 47 [])) [(.loc 0), (.bin .eql 9 (.load 9 (.fa 57 (.loc 3) 1)) (.val (.str [115, 101, 99, 114, 101, 116])))])
                            (.eff none (.store 29 (.tmp 0) (.tmp 1)) [(.loc 2), (.loc 44)]))
                          .ret)
                        .skip)))))))
          (.seq
            (.cond (.call 48 [(.load 9 (.fa 57 (.loc 3) 1))])
              (.seq
                (.seq
                  (.cal (some 50) (.val (.fn 49 [])) [(.loc 0), (.load 57 (.loc 3))])
                  (.eff none (.store 29 (.tmp 0) (.tmp 1)) [(.loc 2), (.bld 29 [0, 4] [(.val (.int .i64 7)), (.loc 50)])]))
                .ret)
              .skip)
            (.seq
              (.cal (some 53) (.val (.fn 50 [])) [(.loc 0), (.val (.str [58]))])
              (.seq
                (.eff none (.store 29 (.tmp 0) (.tmp 1)) [(.loc 2), (.bld 29 [0, 3] [(.val (.int .i64 6)), (.load 9 (.fa 57 (.loc 3) 1))])])
                .ret)))))))
theorem D.ok25 : digFn cfg.P cfg.inl D.h25 1 F.c25 = some D.s25 := by rw [cfgP, cfgIn]; kernel_rfl
theorem D.i25 {n : Nat} {ns : List Nat} {a0 : AV} {H H' : Heap} {v : AV} (h : finI cfg.P [.cell 2 29] H.length (sexec cfg (acall cfg n) D.s25 (H.length :: ns) (a0 :: .undef :: .undef :: .undef :: .undef :: .undef :: .undef :: .undef :: .undef :: .undef :: .undef :: .undef :: .undef :: .undef :: .undef :: .undef :: .undef :: .undef :: .undef :: .undef :: .undef :: .undef :: .undef :: .undef :: .undef :: .undef :: .undef :: .undef :: .undef :: .undef :: .undef :: .undef :: .undef :: .undef :: .undef :: .undef :: .undef :: .undef :: .undef :: .undef :: .undef :: .undef :: .undef :: .undef :: .undef :: .undef :: .undef :: .undef :: .undef :: .undef :: .undef :: .undef :: .undef :: .undef :: pad 3) H) = .ok v H') : acall cfg (n + 1) ns 25 [a0] H = .ok v H' := by
  rw [acall, F.inl25, if_pos rfl]; exact icall_dig (acall_val cfg n) F.fn25 F.ok25 rfl rfl rfl D.ok25 (by rw [env0S_pad (m := 54) (by simp) (by decide)]; exact h)
/- 26 (*augury/auguryref4.line).fail -/
def D.h26 : Hint := { nt := 13, keep := [0, 1], raws := [], cals := [], rs := [] }
noncomputable def D.s26 : S := 
  (.cond (.bin .lss 3 (.load 3 (.fa 66 (.nck (.loc 0)) 3)) (.val (.int .i64 0)))
    (.eff none (.store 3 (.tmp 0) (.tmp 1)) [(.fa 66 (.nck (.loc 0)) 3), (.loc 1)])
    .skip)
theorem D.ok26 : digFn cfg.P cfg.inl D.h26 2 F.c26 = some D.s26 := by rw [cfgP, cfgIn]; kernel_rfl
theorem D.i26 {n : Nat} {ns : List Nat} {a0 a1 : AV} {H H' : Heap} {v : AV} (h : finI cfg.P [] H.length (sexec cfg (acall cfg n) D.s26 (H.length :: ns) (a0 :: a1 :: pad 11) H) = .ok v H') : acall cfg (n + 1) ns 26 [a0, a1] H = .ok v H' := by
  rw [acall, F.inl26, if_pos rfl]; exact icall_dig (acall_val cfg n) F.fn26 F.ok26 rfl rfl rfl D.ok26 (by rw [env0S_pad (m := 2) (by simp) (by decide)]; exact h)
/- 27 augury/auguryref4.text -/
def D.h27 : Hint := { nt := 56, keep := [0, 1, 2, 3, 7], raws := [], cals := [], rs := [] }
noncomputable def D.s27 : S := 
  (.seq
    (.seq
      (.eff (some 1) (.box 29 (.tmp 0)) [(.loc 0)])
      (.sets [(2, (.val (.str [])))]))
    (.seq
      (.sets [(3, (.val (.str [112, 117, 98, 108, 105, 99, 32])))])
      (.seq
        (.cond (.load 4 (.fa 29 (.loc 1) 2))
          (.sets [(3, (.val (.str [115, 101, 99, 114, 101, 116, 32])))])
          .skip)
        (.seq
          (.seq
            (.sets [(7, (.load 3 (.fa 29 (.loc 1) 0)))])
            (.block 0
              (.cond (.bin .eql 3 (.loc 7) (.val (.int .i64 1)))
                (.seq
                  (.sets [(2, (.bin .add 9 (.val (.str [119, 105, 100, 116, 104, 32])) (.call 51 [(.load 3 (.fa 29 (.loc 1) 1))])))])
                  .ret)
                (.cond (.bin .eql 3 (.loc 7) (.val (.int .i64 2)))
                  (.seq
                    (.sets [(2, (.bin .add 9 (.val (.str [119, 105, 110, 100, 111, 119, 32])) (.call 51 [(.load 3 (.fa 29 (.loc 1) 1))])))])
                    .ret)
                  (.cond (.bin .eql 3 (.loc 7) (.val (.int .i64 3)))
                    (.seq
                      (.sets [(2, (.bin .add 9 (.val (.str [102, 117, 101, 108, 32])) (.call 51 [(.load 3 (.fa 29 (.loc 1) 1))])))])
                      .ret)
                    (.cond (.bin .eql 3 (.loc 7) (.val (.int .i64 4)))
                      (.seq
                        (.sets [(2, (.bin .add 9 (.bin .add 9 (.loc 3) (.val (.str [114]))) (.call 51 [(.load 3 (.fa 27 (.fa 29 (.loc 1) 4) 2))])))])
                        .ret)
                      (.cond (.bin .eql 3 (.loc 7) (.val (.int .i64 5)))
                        (.seq
                          (.sets [(2, (.bin .add 9 (.bin .add 9 (.bin .add 9 (.loc 3) (.load 9 (.fa 29 (.loc 1) 3))) (.val (.str [32]))) (.call 51 [(.load 3 (.fa 29 (.loc 1) 1))])))])
                          .ret)
                        (.cond (.bin .eql 3 (.loc 7) (.val (.int .i64 6)))
                          (.seq
                            (.sets [(2, (.bin .add 9 (.load 9 (.fa 29 (.loc 1) 3)) (.val (.str [58]))))])
                            .ret)
                          (.cond (.bin .eql 3 (.loc 7) (.val (.int .i64 7)))
                            (.seq
                              (.sets [(2, (.call 52 [(.load 27 (.fa 29 (.loc 1) 4))]))])
                              .ret)
                            .skip)))))))))
          (.seq
            (.sets [(2, (.val (.str [])))])
            .ret)))))
theorem D.ok27 : digFn cfg.P cfg.inl D.h27 1 F.c27 = some D.s27 := by rw [cfgP, cfgIn]; kernel_rfl
theorem D.v27 {n : Nat} {a0 : AV} {v : AV} (h : finV cfg.P [.tmp 2] (sexec cfg (acall cfg n) D.s27 [] (a0 :: .undef :: .undef :: .undef :: .undef :: .undef :: .undef :: .undef :: pad 48) []) = some v) : vcall cfg (acall cfg n) 27 [a0] = some v := vcall_dig (acall_val cfg n) (cfgPrim _ _ (by decide)) F.fn27 F.ok27 rfl rfl rfl D.ok27 (by rw [env0S_pad (m := 8) (by simp) (by decide)]; exact h)
@[simp] theorem D.a27 (n : Nat) (ns : List Nat) (args : List AV) (H : Heap) : acall cfg (n + 1) ns 27 args H = callV cfg n 27 args H := acall_callV F.inl27
/- 28 augury/lexr.sign -/
def D.h28 : Hint := { nt := 61, keep := [0, 1, 4, 5, 6, 7, 8, 9, 10, 28, 29, 47, 48, 56, 58, 59, 60], raws := [], cals := [], rs := [] }
noncomputable def D.s28 : S := 
  (.seq
    (.seq
      (.eff (some 4) (.alloc 57) [])
      (.sets [(6, (.val (.bool false))), (5, (.val (.int .i64 0)))]))
    (.seq
      (.sets [(7, (.load 21 (.ia 58 (.loc 0) (.loc 1))))])
      (.seq
        (.block 0
          (.cond (.call 53 [(.loc 7)])
            (.seq
              (.sets [(8, (.call 54 [(.loc 0), (.loc 1)]))])
              (.seq
                (.seq
                  (.seq
                    (.sets [(29, (.loc 8)), (28, (.bld 57 [0, 1, 3] [(.val (.int .i64 1)), (.conv 58 9 (.sl 58 (.loc 0) (.loc 1) (.loc 8))), (.loc 1)]))])
                    (.eff none (.store 57 (.tmp 0) (.tmp 1)) [(.loc 4), (.loc 28)]))
                  (.sets [(6, (.val (.bool true))), (5, (.loc 29))]))
                .ret))
            (.cond (.call 55 [(.loc 7)])
              (.seq
                (.seq
                  (.seq
                    (.chk (.ext (.call 56 [(.loc 0), (.loc 1), (.val (.int .i64 5))]) 2))
                    .skip)
                  (.sets [(10, (.ext (.call 56 [(.loc 0), (.loc 1), (.val (.int .i64 5))]) 1)), (9, (.ext (.call 56 [(.loc 0), (.loc 1), (.val (.int .i64 5))]) 0))]))
                (.seq
                  (.seq
                    (.seq
                      (.sets [(48, (.loc 10)), (47, (.bld 57 [0, 1, 2, 3] [(.val (.int .i64 2)), (.conv 58 9 (.sl 58 (.loc 0) (.loc 1) (.loc 10))), (.loc 9), (.loc 1)]))])
                      (.eff none (.store 57 (.tmp 0) (.tmp 1)) [(.loc 4), (.loc 47)]))
                    (.sets [(6, (.val (.bool true))), (5, (.loc 48))]))
                  .ret))
              (.cond (.call 57 [(.val (.str [44, 58, 91, 93, 43])), (.conv 21 9 (.loc 7))])
                (.seq
                  (.seq
                    (.seq
                      (.sets [(58, (.bin .add 3 (.loc 1) (.val (.int .i64 1)))), (56, (.bld 57 [0, 1, 3] [(.val (.int .i64 3)), (.conv 21 9 (.loc 7)), (.loc 1)]))])
                      (.eff none (.store 57 (.tmp 0) (.tmp 1)) [(.loc 4), (.loc 56)]))
                    (.sets [(6, (.val (.bool true))), (5, (.loc 58))]))
                  .ret)
                .skip))))
        (.seq
          (.seq
            (.seq
              (.sets [(60, (.loc 1)), (59, (.bld 57 [] []))])
              (.eff none (.store 57 (.tmp 0) (.tmp 1)) [(.loc 4), (.loc 59)]))
            (.sets [(6, (.val (.bool false))), (5, (.loc 60))]))
          .ret))))
theorem D.ok28 : digFn cfg.P cfg.inl D.h28 2 F.c28 = some D.s28 := by rw [cfgP, cfgIn]; kernel_rfl
theorem D.v28 {n : Nat} {a0 a1 : AV} {v : AV} (h : finV cfg.P [.cell 4 57, .tmp 5, .tmp 6] (sexec cfg (acall cfg n) D.s28 [] (a0 :: a1 :: .undef :: .undef :: .undef :: .undef :: .undef :: .undef :: .undef :: .undef :: .undef :: .undef :: .undef :: .undef :: .undef :: .undef :: .undef :: .undef :: .undef :: .undef :: .undef :: .undef :: .undef :: .undef :: .undef :: .undef :: .undef :: .undef :: .undef :: .undef :: .undef :: .undef :: .undef :: .undef :: .undef :: .undef :: .undef :: .undef :: .undef :: .undef :: .undef :: .undef :: .undef :: .undef :: .undef :: .undef :: .undef :: .undef :: .undef :: .undef :: .undef :: .undef :: .undef :: .undef :: .undef :: .undef :: .undef :: .undef :: .undef :: .undef :: .undef :: pad 0) []) = some v) : vcall cfg (acall cfg n) 28 [a0, a1] = some v := vcall_dig (acall_val cfg n) (cfgPrim _ _ (by decide)) F.fn28 F.ok28 rfl rfl rfl D.ok28 (by rw [env0S_pad (m := 61) (by simp) (by decide)]; exact h)
@[simp] theorem D.a28 (n : Nat) (ns : List Nat) (args : List AV) (H : Heap) : acall cfg (n + 1) ns 28 args H = callV cfg n 28 args H := acall_callV F.inl28
/- 29 augury/lexr.Alone -/
def D.h29 : Hint := { nt := 25, keep := [0, 1, 4], raws := [], cals := [], rs := [] }
noncomputable def D.s29 : S := 
  (.seq
    (.sets [(4, (.val (.bool false)))])
    (.seq
      (.sets [(4, (.ite (.bin .geq 3 (.loc 1) (.len 58 (.loc 0))) (.val (.bool true)) (.ite (.un .not (.call 53 [(.load 21 (.ia 58 (.loc 0) (.loc 1)))])) (.un .not (.call 55 [(.load 21 (.ia 58 (.loc 0) (.loc 1)))])) (.val (.bool false)))))])
      .ret))
theorem D.ok29 : digFn cfg.P cfg.inl D.h29 2 F.c29 = some D.s29 := by rw [cfgP, cfgIn]; kernel_rfl
theorem D.v29 {n : Nat} {a0 a1 : AV} {v : AV} (h : finV cfg.P [.tmp 4] (sexec cfg (acall cfg n) D.s29 [] (a0 :: a1 :: .undef :: .undef :: .undef :: pad 20) []) = some v) : vcall cfg (acall cfg n) 29 [a0, a1] = some v := vcall_dig (acall_val cfg n) (cfgPrim _ _ (by decide)) F.fn29 F.ok29 rfl rfl rfl D.ok29 (by rw [env0S_pad (m := 5) (by simp) (by decide)]; exact h)
@[simp] theorem D.a29 (n : Nat) (ns : List Nat) (args : List AV) (H : Heap) : acall cfg (n + 1) ns 29 args H = callV cfg n 29 args H := acall_callV F.inl29
/- 30 (*augury/syns.reader).next -/
def D.h30 : Hint := { nt := 38, keep := [0, 1, 4], raws := [], cals := [], rs := [] }
noncomputable def D.s30 : S := 
  (.seq
    (.eff (some 4) (.alloc 57) [])
    (.seq
      (.cond (.ite (.ite (.load 4 (.fa 54 (.nck (.loc 0)) 1)) (.val (.bool true)) (.bin .eql 3 (.len 49 (.load 49 (.fa 54 (.nck (.loc 0)) 0))) (.val (.int .i64 0)))) (.val (.bool true)) (.bin .neq 3 (.load 3 (.fa 57 (.ia 49 (.load 49 (.fa 54 (.nck (.loc 0)) 0)) (.val (.int .i64 0))) 0)) (.loc 1)))
        (.seq
          (.eff none (.store 4 (.tmp 0) (.tmp 1)) [(.fa 54 (.nck (.loc 0)) 1), (.val (.bool true))])
          (.seq
            (.eff none (.store 57 (.tmp 0) (.tmp 1)) [(.loc 4), (.bld 57 [] [])])
            .ret))
        .skip)
      (.seq
        (.eff none (.store 57 (.tmp 0) (.tmp 1)) [(.loc 4), (.load 57 (.ia 49 (.load 49 (.fa 54 (.nck (.loc 0)) 0)) (.val (.int .i64 0))))])
        .ret)))
theorem D.ok30 : digFn cfg.P cfg.inl D.h30 2 F.c30 = some D.s30 := by rw [cfgP, cfgIn]; kernel_rfl
theorem D.i30 {n : Nat} {ns : List Nat} {a0 a1 : AV} {H H' : Heap} {v : AV} (h : finI cfg.P [.cell 4 57] H.length (sexec cfg (acall cfg n) D.s30 (H.length :: ns) (a0 :: a1 :: .undef :: .undef :: .undef :: pad 33) H) = .ok v H') : acall cfg (n + 1) ns 30 [a0, a1] H = .ok v H' := by
  rw [acall, F.inl30, if_pos rfl]; exact icall_dig (acall_val cfg n) F.fn30 F.ok30 rfl rfl rfl D.ok30 (by rw [env0S_pad (m := 5) (by simp) (by decide)]; exact h)
/- 31 augury/syns.free -/
def D.h31 : Hint := { nt := 23, keep := [0, 2, 4], raws := [], cals := [], rs := [] }
noncomputable def D.s31 : S := 
  (.seq
    (.sets [(2, (.val (.bool false)))])
    (.seq
      (.seq
        (.seq
          (.chk (.ext (.call 34 [(.loc 0)]) 0))
          .skip)
        (.sets [(4, (.ext (.call 34 [(.loc 0)]) 1))]))
      (.seq
        (.sets [(2, (.ite (.ite (.un .not (.loc 4)) (.bin .eql 3 (.call 58 [(.loc 0)]) (.val (.int .i64 0))) (.val (.bool false))) (.un .not (.call 59 [(.call 60 []), (.loc 0)])) (.val (.bool false))))])
        .ret)))
theorem D.ok31 : digFn cfg.P cfg.inl D.h31 1 F.c31 = some D.s31 := by rw [cfgP, cfgIn]; kernel_rfl
theorem D.v31 {n : Nat} {a0 : AV} {v : AV} (h : finV cfg.P [.tmp 2] (sexec cfg (acall cfg n) D.s31 [] (a0 :: .undef :: .undef :: .undef :: .undef :: pad 18) []) = some v) : vcall cfg (acall cfg n) 31 [a0] = some v := vcall_dig (acall_val cfg n) (cfgPrim _ _ (by decide)) F.fn31 F.ok31 rfl rfl rfl D.ok31 (by rw [env0S_pad (m := 5) (by simp) (by decide)]; exact h)
@[simp] theorem D.a31 (n : Nat) (ns : List Nat) (args : List AV) (H : Heap) : acall cfg (n + 1) ns 31 args H = callV cfg n 31 args H := acall_callV F.inl31
/- 32 (*augury/syns.reader).done -/
def D.h32 : Hint := { nt := 23, keep := [0, 1], raws := [], cals := [], rs := [] }
noncomputable def D.s32 : S := 
  (.seq
    (.cond (.ite (.load 4 (.fa 54 (.nck (.loc 0)) 1)) (.val (.bool true)) (.un .not (.loc 1)))
      (.seq
        (.eff none (.store 4 (.tmp 0) (.tmp 1)) [(.fa 54 (.nck (.loc 0)) 1), (.val (.bool true))])
        .ret)
      .skip)
    (.eff none (.store 49 (.tmp 0) (.tmp 1)) [(.fa 54 (.nck (.loc 0)) 0), (.slh 49 (.load 49 (.fa 54 (.nck (.loc 0)) 0)) (.val (.int .i64 1)))]))
theorem D.ok32 : digFn cfg.P cfg.inl D.h32 2 F.c32 = some D.s32 := by rw [cfgP, cfgIn]; kernel_rfl
theorem D.i32 {n : Nat} {ns : List Nat} {a0 a1 : AV} {H H' : Heap} {v : AV} (h : finI cfg.P [] H.length (sexec cfg (acall cfg n) D.s32 (H.length :: ns) (a0 :: a1 :: pad 21) H) = .ok v H') : acall cfg (n + 1) ns 32 [a0, a1] H = .ok v H' := by
  rw [acall, F.inl32, if_pos rfl]; exact icall_dig (acall_val cfg n) F.fn32 F.ok32 rfl rfl rfl D.ok32 (by rw [env0S_pad (m := 2) (by simp) (by decide)]; exact h)
/- 33 (*augury/syns.reader).sign -/
def D.h33 : Hint := { nt := 13, keep := [0, 1, 4, 6, 12], raws := [], cals := [], rs := [] }
noncomputable def D.s33 : S := 
  (.seq
    (.seq
      (.cal (some 6) (.val (.fn 30 [])) [(.loc 0), (.val (.int .i64 3))])
      (.seq
        (.eff (some 4) (.alloc 57) [])
        (.eff none (.store 57 (.tmp 0) (.tmp 1)) [(.loc 4), (.loc 6)])))
    (.cal (some 12) (.val (.fn 32 [])) [(.loc 0), (.bin .eql 9 (.load 9 (.fa 57 (.loc 4) 1)) (.loc 1))]))
theorem D.ok33 : digFn cfg.P cfg.inl D.h33 2 F.c33 = some D.s33 := by rw [cfgP, cfgIn]; kernel_rfl
theorem D.i33 {n : Nat} {ns : List Nat} {a0 a1 : AV} {H H' : Heap} {v : AV} (h : finI cfg.P [] H.length (sexec cfg (acall cfg n) D.s33 (H.length :: ns) (a0 :: a1 :: .undef :: .undef :: .undef :: .undef :: .undef :: .undef :: .undef :: .undef :: .undef :: .undef :: .undef :: pad 0) H) = .ok v H') : acall cfg (n + 1) ns 33 [a0, a1] H = .ok v H' := by
  rw [acall, F.inl33, if_pos rfl]; exact icall_dig (acall_val cfg n) F.fn33 F.ok33 rfl rfl rfl D.ok33 (by rw [env0S_pad (m := 13) (by simp) (by decide)]; exact h)
/- 34 augury/syns.reg -/
def D.h34 : Hint := { nt := 26, keep := [0, 2, 3], raws := [], cals := [], rs := [] }
noncomputable def D.s34 : S := 
  (.seq
    (.sets [(3, (.val (.bool false))), (2, (.val (.int .i64 0)))])
    (.seq
      (.cond (.ite (.ite (.ite (.bin .neq 3 (.len 9 (.loc 0)) (.val (.int .i64 2))) (.val (.bool true)) (.bin .neq 5 (.ix 9 (.loc 0) (.val (.int .i64 0))) (.val (.int .u8 114)))) (.val (.bool true)) (.bin .lss 5 (.ix 9 (.loc 0) (.val (.int .i64 1))) (.val (.int .u8 48)))) (.val (.bool true)) (.bin .geq 5 (.ix 9 (.loc 0) (.val (.int .i64 1))) (.val (.int .u8 52))))
        (.seq
          (.sets [(3, (.val (.bool false))), (2, (.val (.int .i64 0)))])
          .ret)
        .skip)
      (.seq
        (.sets [(3, (.val (.bool true))), (2, (.conv 5 3 (.bin .sub 5 (.ix 9 (.loc 0) (.val (.int .i64 1))) (.val (.int .u8 48)))))])
        .ret)))
theorem D.ok34 : digFn cfg.P cfg.inl D.h34 1 F.c34 = some D.s34 := by rw [cfgP, cfgIn]; kernel_rfl
theorem D.v34 {n : Nat} {a0 : AV} {v : AV} (h : finV cfg.P [.tmp 2, .tmp 3] (sexec cfg (acall cfg n) D.s34 [] (a0 :: .undef :: .undef :: .undef :: pad 22) []) = some v) : vcall cfg (acall cfg n) 34 [a0] = some v := vcall_dig (acall_val cfg n) (cfgPrim _ _ (by decide)) F.fn34 F.ok34 rfl rfl rfl D.ok34 (by rw [env0S_pad (m := 4) (by simp) (by decide)]; exact h)
@[simp] theorem D.a34 (n : Nat) (ns : List Nat) (args : List AV) (H : Heap) : acall cfg (n + 1) ns 34 args H = callV cfg n 34 args H := acall_callV F.inl34
/- 35 (*augury/syns.reader).num -/
def D.h35 : Hint := { nt := 10, keep := [0, 2, 3, 5, 7], raws := [], cals := [], rs := [] }
noncomputable def D.s35 : S := 
  (.seq
    (.sets [(2, (.val (.int .i64 0)))])
    (.seq
      (.seq
        (.cal (some 5) (.val (.fn 30 [])) [(.loc 0), (.val (.int .i64 2))])
        (.seq
          (.eff (some 3) (.alloc 57) [])
          (.eff none (.store 57 (.tmp 0) (.tmp 1)) [(.loc 3), (.loc 5)])))
      (.seq
        (.cal (some 7) (.val (.fn 32 [])) [(.loc 0), (.val (.bool true))])
        (.seq
          (.sets [(2, (.load 3 (.fa 57 (.loc 3) 2)))])
          .ret))))
theorem D.ok35 : digFn cfg.P cfg.inl D.h35 1 F.c35 = some D.s35 := by rw [cfgP, cfgIn]; kernel_rfl
theorem D.i35 {n : Nat} {ns : List Nat} {a0 : AV} {H H' : Heap} {v : AV} (h : finI cfg.P [.tmp 2] H.length (sexec cfg (acall cfg n) D.s35 (H.length :: ns) (a0 :: .undef :: .undef :: .undef :: .undef :: .undef :: .undef :: .undef :: pad 2) H) = .ok v H') : acall cfg (n + 1) ns 35 [a0] H = .ok v H' := by
  rw [acall, F.inl35, if_pos rfl]; exact icall_dig (acall_val cfg n) F.fn35 F.ok35 rfl rfl rfl D.ok35 (by rw [env0S_pad (m := 8) (by simp) (by decide)]; exact h)
/- 36 (*augury/syns.reader).place -/
def D.h36 : Hint := { nt := 47, keep := [0, 1, 4, 5, 6, 7, 34, 39, 40, 41, 42, 44], raws := [], cals := [], rs := [] }
noncomputable def D.s36 : S := 
  (.seq
    (.eff (some 4) (.alloc 29) [])
    (.seq
      (.cond (.ite (.un .not (.load 4 (.fa 54 (.nck (.loc 0)) 1))) (.bin .gtr 3 (.len 49 (.load 49 (.fa 54 (.nck (.loc 0)) 0))) (.val (.int .i64 0))) (.val (.bool false)))
        (.seq
          (.sets [(6, (.ext (.call 34 [(.load 9 (.fa 57 (.ia 49 (.load 49 (.fa 54 (.nck (.loc 0)) 0)) (.val (.int .i64 0))) 1))]) 1)), (5, (.ext (.call 34 [(.load 9 (.fa 57 (.ia 49 (.load 49 (.fa 54 (.nck (.loc 0)) 0)) (.val (.int .i64 0))) 1))]) 0))])
          (.cond (.loc 6)
            (.seq
              (.cal (some 34) (.val (.fn 32 [])) [(.loc 0), (.val (.bool true))])
              (.seq
                (.eff none (.store 29 (.tmp 0) (.tmp 1)) [(.loc 4), (.bld 29 [0, 2, 4] [(.val (.int .i64 4)), (.loc 1), (.bld 27 [2] [(.loc 5)])])])
                .ret))
            .skip))
        .skip)
      (.seq
        (.seq
          (.seq
            (.sets [(40, (.loc 0)), (39, (.loc 1))])
            (.cal (some 41) (.val (.fn 61 [])) [(.loc 40)]))
          (.seq
            (.seq
              (.sets [(42, (.bld 29 [0, 2, 3] [(.val (.int .i64 5)), (.loc 39), (.loc 41)]))])
              (.eff (some 7) (.alloc 29) []))
            (.eff none (.store 29 (.tmp 0) (.tmp 1)) [(.loc 7), (.loc 42)])))
        (.seq
          (.seq
            (.cal (some 44) (.val (.fn 35 [])) [(.loc 0)])
            (.eff none (.store 3 (.tmp 0) (.tmp 1)) [(.fa 29 (.loc 7) 1), (.loc 44)]))
          (.seq
            (.eff none (.store 29 (.tmp 0) (.tmp 1)) [(.loc 4), (.load 29 (.loc 7))])
            .ret)))))
theorem D.ok36 : digFn cfg.P cfg.inl D.h36 2 F.c36 = some D.s36 := by rw [cfgP, cfgIn]; kernel_rfl
theorem D.i36 {n : Nat} {ns : List Nat} {a0 a1 : AV} {H H' : Heap} {v : AV} (h : finI cfg.P [.cell 4 29] H.length (sexec cfg (acall cfg n) D.s36 (H.length :: ns) (a0 :: a1 :: .undef :: .undef :: .undef :: .undef :: .undef :: .undef :: .undef :: .undef :: .undef :: .undef :: .undef :: .undef :: .undef :: .undef :: .undef :: .undef :: .undef :: .undef :: .undef :: .undef :: .undef :: .undef :: .undef :: .undef :: .undef :: .undef :: .undef :: .undef :: .undef :: .undef :: .undef :: .undef :: .undef :: .undef :: .undef :: .undef :: .undef :: .undef :: .undef :: .undef :: .undef :: .undef :: .undef :: pad 2) H) = .ok v H') : acall cfg (n + 1) ns 36 [a0, a1] H = .ok v H' := by
  rw [acall, F.inl36, if_pos rfl]; exact icall_dig (acall_val cfg n) F.fn36 F.ok36 rfl rfl rfl D.ok36 (by rw [env0S_pad (m := 45) (by simp) (by decide)]; exact h)
/- 37 (*augury/syns.reader).ins -/
def D.h37 : Hint := { nt := 58, keep := [0, 1, 4, 5, 6, 10, 14, 18, 23, 28, 56], raws := [], cals := [], rs := [] }
noncomputable def D.s37 : S := 
  (.seq
    (.seq
      (.eff (some 4) (.alloc 27) [])
      (.sets [(5, (.val (.bool false)))]))
    (.seq
      (.seq
        (.sets [(6, (.loc 1))])
        (.block 0
          (.cond (.bin .eql 9 (.loc 6) (.val (.str [115, 116, 111, 114, 101])))
            (.seq
              (.seq
                (.seq
                  (.cal (some 10) (.val (.fn 62 [])) [(.loc 0)])
                  (.eff none (.store 27 (.tmp 0) (.tmp 1)) [(.loc 4), (.loc 10)]))
                (.sets [(5, (.val (.bool true)))]))
              .ret)
            (.cond (.bin .eql 9 (.loc 6) (.val (.str [98, 114])))
              (.seq
                (.seq
                  (.seq
                    (.cal (some 14) (.val (.fn 63 [])) [(.loc 0)])
                    (.eff none (.store 27 (.tmp 0) (.tmp 1)) [(.loc 4), (.loc 14)]))
                  (.sets [(5, (.val (.bool true)))]))
                .ret)
              (.cond (.bin .eql 9 (.loc 6) (.val (.str [106, 109, 112])))
                (.seq
                  (.seq
                    (.seq
                      (.cal (some 18) (.val (.fn 61 [])) [(.loc 0)])
                      (.eff none (.store 27 (.tmp 0) (.tmp 1)) [(.loc 4), (.bld 27 [0, 5] [(.val (.int .i64 6)), (.loc 18)])]))
                    (.sets [(5, (.val (.bool true)))]))
                  .ret)
                (.cond (.bin .eql 9 (.loc 6) (.val (.str [99, 97, 108, 108])))
                  (.seq
                    (.seq
                      (.seq
                        (.cal (some 23) (.val (.fn 61 [])) [(.loc 0)])
                        (.eff none (.store 27 (.tmp 0) (.tmp 1)) [(.loc 4), (.bld 27 [0, 5] [(.val (.int .i64 8)), (.loc 23)])]))
                      (.sets [(5, (.val (.bool true)))]))
                    .ret)
                  (.cond (.bin .eql 9 (.loc 6) (.val (.str [105, 110, 100])))
                    (.seq
                      (.seq
                        (.seq
                          (.cal (some 28) (.val (.fn 64 [])) [(.loc 0)])
                          (.eff none (.store 27 (.tmp 0) (.tmp 1)) [(.loc 4), (.bld 27 [0, 3] [(.val (.int .i64 7)), (.loc 28)])]))
                        (.sets [(5, (.val (.bool true)))]))
                      .ret)
                    (.cond (.bin .eql 9 (.loc 6) (.val (.str [114, 101, 116])))
                      (.seq
                        (.seq
                          (.eff none (.store 27 (.tmp 0) (.tmp 1)) [(.loc 4), (.bld 27 [0] [(.val (.int .i64 9))])])
                          (.sets [(5, (.val (.bool true)))]))
                        .ret)
                      (.cond (.bin .eql 9 (.loc 6) (.val (.str [102, 101, 110, 99, 101])))
                        (.seq
                          (.seq
                            (.eff none (.store 27 (.tmp 0) (.tmp 1)) [(.loc 4), (.bld 27 [0] [(.val (.int .i64 10))])])
                            (.sets [(5, (.val (.bool true)))]))
                          .ret)
                        (.cond (.bin .eql 9 (.loc 6) (.val (.str [104, 97, 108, 116])))
                          (.seq
                            (.seq
                              (.eff none (.store 27 (.tmp 0) (.tmp 1)) [(.loc 4), (.bld 27 [0] [(.val (.int .i64 11))])])
                              (.sets [(5, (.val (.bool true)))]))
                            .ret)
                          .skip))))))))))
      (.seq
        (.cond (.ite (.ite (.ite (.bin .gtr 3 (.call 58 [(.loc 1)]) (.val (.int .i64 0))) (.val (.bool true)) (.bin .eql 9 (.loc 1) (.val (.str [109, 111, 118])))) (.val (.bool true)) (.bin .eql 9 (.loc 1) (.val (.str [108, 111, 97, 100])))) (.val (.bool true)) (.bin .eql 9 (.loc 1) (.val (.str [99, 109, 111, 118]))))
          (.seq
            (.seq
              (.seq
                (.cal (some 56) (.val (.fn 65 [])) [(.loc 0), (.loc 1)])
                (.eff none (.store 27 (.tmp 0) (.tmp 1)) [(.loc 4), (.loc 56)]))
              (.sets [(5, (.val (.bool true)))]))
            .ret)
          .skip)
        (.seq
          (.seq
            (.eff none (.store 27 (.tmp 0) (.tmp 1)) [(.loc 4), (.bld 27 [] [])])
            (.sets [(5, (.val (.bool false)))]))
          .ret))))
theorem D.ok37 : digFn cfg.P cfg.inl D.h37 2 F.c37 = some D.s37 := by rw [cfgP, cfgIn]; kernel_rfl
theorem D.i37 {n : Nat} {ns : List Nat} {a0 a1 : AV} {H H' : Heap} {v : AV} (h : finI cfg.P [.cell 4 27, .tmp 5] H.length (sexec cfg (acall cfg n) D.s37 (H.length :: ns) (a0 :: a1 :: .undef :: .undef :: .undef :: .undef :: .undef :: .undef :: .undef :: .undef :: .undef :: .undef :: .undef :: .undef :: .undef :: .undef :: .undef :: .undef :: .undef :: .undef :: .undef :: .undef :: .undef :: .undef :: .undef :: .undef :: .undef :: .undef :: .undef :: .undef :: .undef :: .undef :: .undef :: .undef :: .undef :: .undef :: .undef :: .undef :: .undef :: .undef :: .undef :: .undef :: .undef :: .undef :: .undef :: .undef :: .undef :: .undef :: .undef :: .undef :: .undef :: .undef :: .undef :: .undef :: .undef :: .undef :: .undef :: pad 1) H) = .ok v H') : acall cfg (n + 1) ns 37 [a0, a1] H = .ok v H' := by
  rw [acall, F.inl37, if_pos rfl]; exact icall_dig (acall_val cfg n) F.fn37 F.ok37 rfl rfl rfl D.ok37 (by rw [env0S_pad (m := 57) (by simp) (by decide)]; exact h)
@[simp] theorem D.a38 (n : Nat) (ns : List Nat) (args : List AV) (H : Heap) : acall cfg (n + 1) ns 38 args H = callV cfg n 38 args H := acall_callV F.inl38
/- 39 augury/syns.register -/
def D.h39 : Hint := { nt := 6, keep := [0, 2], raws := [], cals := [], rs := [] }
noncomputable def D.s39 : S := 
  (.seq
    (.sets [(2, (.val (.str [])))])
    (.seq
      (.sets [(2, (.call 67 [(.bld 25 [0, 1] [(.val (.bool true)), (.loc 0)])]))])
      .ret))
theorem D.ok39 : digFn cfg.P cfg.inl D.h39 1 F.c39 = some D.s39 := by rw [cfgP, cfgIn]; kernel_rfl
theorem D.v39 {n : Nat} {a0 : AV} {v : AV} (h : finV cfg.P [.tmp 2] (sexec cfg (acall cfg n) D.s39 [] (a0 :: .undef :: .undef :: pad 3) []) = some v) : vcall cfg (acall cfg n) 39 [a0] = some v := vcall_dig (acall_val cfg n) (cfgPrim _ _ (by decide)) F.fn39 F.ok39 rfl rfl rfl D.ok39 (by rw [env0S_pad (m := 3) (by simp) (by decide)]; exact h)
@[simp] theorem D.a39 (n : Nat) (ns : List Nat) (args : List AV) (H : Heap) : acall cfg (n + 1) ns 39 args H = callV cfg n 39 args H := acall_callV F.inl39
/- 40 augury/syns.line -/
def D.h40 : Hint := { nt := 100, keep := [0, 1, 2, 3, 4, 24], raws := [], cals := [], rs := [] }
noncomputable def D.s40 : S := 
  (.seq
    (.seq
      (.eff (some 1) (.box 27 (.tmp 0)) [(.loc 0)])
      (.sets [(2, (.val (.str [])))]))
    (.seq
      (.sets [(3, (.bin .add 9 (.bin .add 9 (.call 67 [(.load 25 (.fa 27 (.loc 1) 3))]) (.val (.str [44, 32]))) (.call 67 [(.load 25 (.fa 27 (.loc 1) 4))])))])
      (.seq
        (.sets [(4, (.bin .add 9 (.bin .add 9 (.bin .add 9 (.bin .add 9 (.val (.str [91])) (.call 67 [(.load 25 (.fa 27 (.loc 1) 3))])) (.val (.str [32, 43, 32]))) (.call 67 [(.load 25 (.fa 27 (.loc 1) 4))])) (.val (.str [93]))))])
        (.seq
          (.seq
            (.sets [(24, (.load 3 (.fa 27 (.loc 1) 0)))])
            (.block 0
              (.cond (.bin .eql 3 (.loc 24) (.val (.int .i64 1)))
                (.seq
                  (.sets [(2, (.bin .add 9 (.bin .add 9 (.bin .add 9 (.bin .add 9 (.call 68 [(.load 3 (.fa 27 (.loc 1) 1))]) (.val (.str [32]))) (.call 39 [(.load 3 (.fa 27 (.loc 1) 2))])) (.val (.str [44, 32]))) (.loc 3)))])
                  .ret)
                (.cond (.bin .eql 3 (.loc 24) (.val (.int .i64 2)))
                  (.seq
                    (.sets [(2, (.bin .add 9 (.bin .add 9 (.bin .add 9 (.val (.str [108, 111, 97, 100, 32])) (.call 39 [(.load 3 (.fa 27 (.loc 1) 2))])) (.val (.str [44, 32]))) (.loc 4)))])
                    .ret)
                  (.cond (.bin .eql 3 (.loc 24) (.val (.int .i64 3)))
                    (.seq
                      (.sets [(2, (.bin .add 9 (.bin .add 9 (.bin .add 9 (.val (.str [115, 116, 111, 114, 101, 32])) (.loc 4)) (.val (.str [44, 32]))) (.call 39 [(.load 3 (.fa 27 (.loc 1) 2))])))])
                      .ret)
                    (.cond (.bin .eql 3 (.loc 24) (.val (.int .i64 4)))
                      (.seq
                        (.sets [(2, (.bin .add 9 (.bin .add 9 (.bin .add 9 (.val (.str [99, 109, 111, 118, 32])) (.call 39 [(.load 3 (.fa 27 (.loc 1) 2))])) (.val (.str [44, 32]))) (.loc 3)))])
                        .ret)
                      (.cond (.bin .eql 3 (.loc 24) (.val (.int .i64 5)))
                        (.seq
                          (.sets [(2, (.bin .add 9 (.bin .add 9 (.bin .add 9 (.bin .add 9 (.bin .add 9 (.val (.str [98, 114, 32])) (.call 68 [(.load 3 (.fa 27 (.loc 1) 1))])) (.val (.str [32]))) (.loc 3)) (.val (.str [44, 32]))) (.load 9 (.fa 27 (.loc 1) 5))))])
                          .ret)
                        (.cond (.bin .eql 3 (.loc 24) (.val (.int .i64 6)))
                          (.seq
                            (.sets [(2, (.bin .add 9 (.val (.str [106, 109, 112, 32])) (.load 9 (.fa 27 (.loc 1) 5))))])
                            .ret)
                          (.cond (.bin .eql 3 (.loc 24) (.val (.int .i64 7)))
                            (.seq
                              (.sets [(2, (.bin .add 9 (.val (.str [105, 110, 100, 32])) (.call 67 [(.load 25 (.fa 27 (.loc 1) 3))])))])
                              .ret)
                            (.cond (.bin .eql 3 (.loc 24) (.val (.int .i64 8)))
                              (.seq
                                (.sets [(2, (.bin .add 9 (.val (.str [99, 97, 108, 108, 32])) (.load 9 (.fa 27 (.loc 1) 5))))])
                                .ret)
                              (.cond (.bin .eql 3 (.loc 24) (.val (.int .i64 9)))
                                (.seq
                                  (.sets [(2, (.val (.str [114, 101, 116])))])
                                  .ret)
                                (.cond (.bin .eql 3 (.loc 24) (.val (.int .i64 10)))
                                  (.seq
                                    (.sets [(2, (.val (.str [102, 101, 110, 99, 101])))])
                                    .ret)
                                  (.cond (.bin .eql 3 (.loc 24) (.val (.int .i64 11)))
                                    (.seq
                                      (.sets [(2, (.val (.str [104, 97, 108, 116])))])
                                      .ret)
                                    .skip)))))))))))))
          (.seq
            (.sets [(2, (.val (.str [63])))])
            .ret)))))
theorem D.ok40 : digFn cfg.P cfg.inl D.h40 1 F.c40 = some D.s40 := by rw [cfgP, cfgIn]; kernel_rfl
theorem D.v40 {n : Nat} {a0 : AV} {v : AV} (h : finV cfg.P [.tmp 2] (sexec cfg (acall cfg n) D.s40 [] (a0 :: .undef :: .undef :: .undef :: .undef :: .undef :: .undef :: .undef :: .undef :: .undef :: .undef :: .undef :: .undef :: .undef :: .undef :: .undef :: .undef :: .undef :: .undef :: .undef :: .undef :: .undef :: .undef :: .undef :: .undef :: pad 75) []) = some v) : vcall cfg (acall cfg n) 40 [a0] = some v := vcall_dig (acall_val cfg n) (cfgPrim _ _ (by decide)) F.fn40 F.ok40 rfl rfl rfl D.ok40 (by rw [env0S_pad (m := 25) (by simp) (by decide)]; exact h)
@[simp] theorem D.a40 (n : Nat) (ns : List Nat) (args : List AV) (H : Heap) : acall cfg (n + 1) ns 40 args H = callV cfg n 40 args H := acall_callV F.inl40
/- 41 augury/auguryref4.letter -/
def D.h41 : Hint := { nt := 9, keep := [0, 2], raws := [], cals := [], rs := [] }
noncomputable def D.s41 : S := 
  (.seq
    (.sets [(2, (.val (.bool false)))])
    (.seq
      (.sets [(2, (.ite (.bin .geq 21 (.loc 0) (.val (.int .i32 97))) (.bin .leq 21 (.loc 0) (.val (.int .i32 122))) (.val (.bool false))))])
      .ret))
theorem D.ok41 : digFn cfg.P cfg.inl D.h41 1 F.c41 = some D.s41 := by rw [cfgP, cfgIn]; kernel_rfl
theorem D.v41 {n : Nat} {a0 : AV} {v : AV} (h : finV cfg.P [.tmp 2] (sexec cfg (acall cfg n) D.s41 [] (a0 :: .undef :: .undef :: pad 6) []) = some v) : vcall cfg (acall cfg n) 41 [a0] = some v := vcall_dig (acall_val cfg n) (cfgPrim _ _ (by decide)) F.fn41 F.ok41 rfl rfl rfl D.ok41 (by rw [env0S_pad (m := 3) (by simp) (by decide)]; exact h)
@[simp] theorem D.a41 (n : Nat) (ns : List Nat) (args : List AV) (H : Heap) : acall cfg (n + 1) ns 41 args H = callV cfg n 41 args H := acall_callV F.inl41
/- 42 augury/auguryref4.digit -/
def D.h42 : Hint := { nt := 9, keep := [0, 2], raws := [], cals := [], rs := [] }
noncomputable def D.s42 : S := 
  (.seq
    (.sets [(2, (.val (.bool false)))])
    (.seq
      (.sets [(2, (.ite (.bin .geq 21 (.loc 0) (.val (.int .i32 48))) (.bin .leq 21 (.loc 0) (.val (.int .i32 57))) (.val (.bool false))))])
      .ret))
theorem D.ok42 : digFn cfg.P cfg.inl D.h42 1 F.c42 = some D.s42 := by rw [cfgP, cfgIn]; kernel_rfl
theorem D.v42 {n : Nat} {a0 : AV} {v : AV} (h : finV cfg.P [.tmp 2] (sexec cfg (acall cfg n) D.s42 [] (a0 :: .undef :: .undef :: pad 6) []) = some v) : vcall cfg (acall cfg n) 42 [a0] = some v := vcall_dig (acall_val cfg n) (cfgPrim _ _ (by decide)) F.fn42 F.ok42 rfl rfl rfl D.ok42 (by rw [env0S_pad (m := 3) (by simp) (by decide)]; exact h)
@[simp] theorem D.a42 (n : Nat) (ns : List Nat) (args : List AV) (H : Heap) : acall cfg (n + 1) ns 42 args H = callV cfg n 42 args H := acall_callV F.inl42
/- 43 augury/auguryref4.Number -/
def D.h43 : Hint := { nt := 80, keep := [0, 1, 2, 6, 7, 8, 9, 10], raws := [], cals := [], rs := [[6, 7, 8]] }
noncomputable def D.b43_0 : S := 
  (.seq
    (.cond (.ite (.ite (.ite (.bin .lss 3 (.loc 9) (.len 58 (.loc 0))) (.call 42 [(.load 21 (.ia 58 (.loc 0) (.loc 9)))]) (.val (.bool false))) (.bin .lss 3 (.bin .sub 3 (.loc 9) (.loc 1)) (.loc 2)) (.val (.bool false))) (.un .not (.ite (.bin .gtr 3 (.loc 9) (.loc 1)) (.bin .eql 21 (.load 21 (.ia 58 (.loc 0) (.loc 1))) (.val (.int .i32 48))) (.val (.bool false)))) (.val (.bool false)))
      .skip
      (.exit 0))
    (.block 1
      (.seq
        (.sets [(10, (.bin .add 3 (.bin .mul 3 (.val (.int .i64 10)) (.loc 10)) (.conv 21 3 (.bin .sub 21 (.load 21 (.ia 58 (.loc 0) (.loc 9))) (.val (.int .i32 48))))))])
        (.sets [(9, (.bin .add 3 (.loc 9) (.val (.int .i64 1))))]))))
theorem D.e43_0 {C : Cfg} {call : Callee'} {ns : List Nat} {L : Env} {H : Heap} : sexec C call D.b43_0 ns L H = sexec C call
  (.seq
    (.cond (.ite (.ite (.ite (.bin .lss 3 (.loc 9) (.len 58 (.loc 0))) (.call 42 [(.load 21 (.ia 58 (.loc 0) (.loc 9)))]) (.val (.bool false))) (.bin .lss 3 (.bin .sub 3 (.loc 9) (.loc 1)) (.loc 2)) (.val (.bool false))) (.un .not (.ite (.bin .gtr 3 (.loc 9) (.loc 1)) (.bin .eql 21 (.load 21 (.ia 58 (.loc 0) (.loc 1))) (.val (.int .i32 48))) (.val (.bool false)))) (.val (.bool false)))
      .skip
      (.exit 0))
    (.block 1
      (.seq
        (.sets [(10, (.bin .add 3 (.bin .mul 3 (.val (.int .i64 10)) (.loc 10)) (.conv 21 3 (.bin .sub 21 (.load 21 (.ia 58 (.loc 0) (.loc 9))) (.val (.int .i32 48))))))])
        (.sets [(9, (.bin .add 3 (.loc 9) (.val (.int .i64 1))))])))) ns L H := rfl
noncomputable def D.s43 : S := 
  (.seq
    (.sets [(8, (.val (.bool false))), (7, (.val (.int .i64 0))), (6, (.val (.int .i64 0)))])
    (.seq
      (.sets [(10, (.val (.int .i64 0))), (9, (.loc 1))])
      (.seq
        (.block 0
          (.loop [6, 7, 8] D.b43_0))
        (.seq
          (.cond (.ite (.bin .eql 3 (.loc 9) (.loc 1)) (.val (.bool true)) (.ite (.bin .lss 3 (.loc 9) (.len 58 (.loc 0))) (.ite (.call 42 [(.load 21 (.ia 58 (.loc 0) (.loc 9)))]) (.val (.bool true)) (.call 41 [(.load 21 (.ia 58 (.loc 0) (.loc 9)))])) (.val (.bool false))))
            (.seq
              (.sets [(8, (.val (.bool false))), (7, (.val (.int .i64 0))), (6, (.loc 9))])
              .ret)
            .skip)
          (.seq
            (.sets [(8, (.val (.bool true))), (7, (.loc 10)), (6, (.loc 9))])
            .ret)))))
theorem D.ok43 : digFn cfg.P cfg.inl D.h43 3 F.c43 = some D.s43 := by rw [cfgP, cfgIn]; kernel_rfl
theorem D.v43 {n : Nat} {a0 a1 a2 : AV} {v : AV} (h : finV cfg.P [.tmp 6, .tmp 7, .tmp 8] (sexec cfg (acall cfg n) D.s43 [] (a0 :: a1 :: a2 :: .undef :: .undef :: .undef :: .undef :: .undef :: .undef :: .undef :: .undef :: pad 69) []) = some v) : vcall cfg (acall cfg n) 43 [a0, a1, a2] = some v := vcall_dig (acall_val cfg n) (cfgPrim _ _ (by decide)) F.fn43 F.ok43 rfl rfl rfl D.ok43 (by rw [env0S_pad (m := 11) (by simp) (by decide)]; exact h)
@[simp] theorem D.a43 (n : Nat) (ns : List Nat) (args : List AV) (H : Heap) : acall cfg (n + 1) ns 43 args H = callV cfg n 43 args H := acall_callV F.inl43
/- 44 (*augury/auguryref4.line).next -/
def D.h44 : Hint := { nt := 36, keep := [0, 2, 20, 21, 22, 23, 24, 25, 26, 27, 28, 29, 30], raws := [3], cals := [], rs := [] }
noncomputable def D.s44 : S := 
  (.seq
    (.eff (some 2) (.alloc 57) [])
    (.seq
      (.cond (.bin .lss 3 (.load 3 (.fa 66 (.nck (.loc 0)) 1)) (.len 49 (.load 49 (.fa 66 (.nck (.loc 0)) 0))))
        (.seq
          (.eff none (.store 3 (.tmp 0) (.tmp 1)) [(.fa 66 (.nck (.loc 0)) 1), (.bin .add 3 (.load 3 (.fa 66 (.nck (.loc 0)) 1)) (.val (.int .i64 1)))])
          (.seq
            (.raw (regOps F.c44 3) true)
            .ret))
        .skip)
      (.seq
        (.eff none (.store 57 (.tmp 0) (.tmp 1)) [(.loc 2), (.bld 57 [3] [(.load 3 (.fa 66 (.nck (.loc 0)) 2))])])
        .ret)))
theorem D.ok44 : digFn cfg.P cfg.inl D.h44 1 F.c44 = some D.s44 := by rw [cfgP, cfgIn]; kernel_rfl
theorem D.i44 {n : Nat} {ns : List Nat} {a0 : AV} {H H' : Heap} {v : AV} (h : finI cfg.P [.cell 2 57] H.length (sexec cfg (acall cfg n) D.s44 (H.length :: ns) (a0 :: .undef :: .undef :: .undef :: .undef :: .undef :: .undef :: .undef :: .undef :: .undef :: .undef :: .undef :: .undef :: .undef :: .undef :: .undef :: .undef :: .undef :: .undef :: .undef :: .undef :: .undef :: .undef :: .undef :: .undef :: .undef :: .undef :: .undef :: .undef :: .undef :: .undef :: pad 5) H) = .ok v H') : acall cfg (n + 1) ns 44 [a0] H = .ok v H' := by
  rw [acall, F.inl44, if_pos rfl]; exact icall_dig (acall_val cfg n) F.fn44 F.ok44 rfl rfl rfl D.ok44 (by rw [env0S_pad (m := 31) (by simp) (by decide)]; exact h)
/- 45 augury/auguryref4.reg -/
def D.h45 : Hint := { nt := 25, keep := [0, 2], raws := [], cals := [], rs := [] }
noncomputable def D.s45 : S := 
  (.seq
    (.sets [(2, (.val (.int .i64 0)))])
    (.seq
      (.cond (.ite (.ite (.ite (.bin .eql 3 (.len 9 (.loc 0)) (.val (.int .i64 2))) (.bin .eql 5 (.ix 9 (.loc 0) (.val (.int .i64 0))) (.val (.int .u8 114))) (.val (.bool false))) (.bin .geq 5 (.ix 9 (.loc 0) (.val (.int .i64 1))) (.val (.int .u8 48))) (.val (.bool false))) (.bin .leq 5 (.ix 9 (.loc 0) (.val (.int .i64 1))) (.val (.int .u8 51))) (.val (.bool false)))
        (.seq
          (.sets [(2, (.conv 5 3 (.bin .sub 5 (.ix 9 (.loc 0) (.val (.int .i64 1))) (.val (.int .u8 48)))))])
          .ret)
        .skip)
      (.seq
        (.sets [(2, (.val (.int .i64 (-1))))])
        .ret)))
theorem D.ok45 : digFn cfg.P cfg.inl D.h45 1 F.c45 = some D.s45 := by rw [cfgP, cfgIn]; kernel_rfl
theorem D.v45 {n : Nat} {a0 : AV} {v : AV} (h : finV cfg.P [.tmp 2] (sexec cfg (acall cfg n) D.s45 [] (a0 :: .undef :: .undef :: pad 22) []) = some v) : vcall cfg (acall cfg n) 45 [a0] = some v := vcall_dig (acall_val cfg n) (cfgPrim _ _ (by decide)) F.fn45 F.ok45 rfl rfl rfl D.ok45 (by rw [env0S_pad (m := 3) (by simp) (by decide)]; exact h)
@[simp] theorem D.a45 (n : Nat) (ns : List Nat) (args : List AV) (H : Heap) : acall cfg (n + 1) ns 45 args H = callV cfg n 45 args H := acall_callV F.inl45
/- 46 (*augury/auguryref4.line).num -/
def D.h46 : Hint := { nt := 15, keep := [0, 2, 3, 5, 12], raws := [], cals := [], rs := [] }
noncomputable def D.s46 : S := 
  (.seq
    (.sets [(2, (.val (.int .i64 0)))])
    (.seq
      (.seq
        (.cal (some 5) (.val (.fn 44 [])) [(.loc 0)])
        (.seq
          (.eff (some 3) (.alloc 57) [])
          (.eff none (.store 57 (.tmp 0) (.tmp 1)) [(.loc 3), (.loc 5)])))
      (.seq
        (.cond (.bin .neq 3 (.load 3 (.fa 57 (.loc 3) 0)) (.val (.int .i64 2)))
          (.cal (some 12) (.val (.fn 26 [])) [(.loc 0), (.load 3 (.fa 57 (.loc 3) 3))])
          .skip)
        (.seq
          (.sets [(2, (.load 3 (.fa 57 (.loc 3) 2)))])
          .ret))))
theorem D.ok46 : digFn cfg.P cfg.inl D.h46 1 F.c46 = some D.s46 := by rw [cfgP, cfgIn]; kernel_rfl
theorem D.i46 {n : Nat} {ns : List Nat} {a0 : AV} {H H' : Heap} {v : AV} (h : finI cfg.P [.tmp 2] H.length (sexec cfg (acall cfg n) D.s46 (H.length :: ns) (a0 :: .undef :: .undef :: .undef :: .undef :: .undef :: .undef :: .undef :: .undef :: .undef :: .undef :: .undef :: .undef :: pad 2) H) = .ok v H') : acall cfg (n + 1) ns 46 [a0] H = .ok v H' := by
  rw [acall, F.inl46, if_pos rfl]; exact icall_dig (acall_val cfg n) F.fn46 F.ok46 rfl rfl rfl D.ok46 (by rw [env0S_pad (m := 13) (by simp) (by decide)]; exact h)
/- 47 (*augury/auguryref4.line).declare -/
def D.h47 : Hint := { nt := 41, keep := [0, 1, 4, 5, 7, 34, 35, 36, 37, 38, 39, 40], raws := [6], cals := [], rs := [] }
noncomputable def D.s47 : S := 
  (.seq
    (.eff (some 4) (.alloc 29) [])
    (.seq
      (.seq
        (.cal (some 7) (.val (.fn 44 [])) [(.loc 0)])
        (.seq
          (.eff (some 5) (.alloc 57) [])
          (.eff none (.store 57 (.tmp 0) (.tmp 1)) [(.loc 5), (.loc 7)])))
      (.seq
        (.cond (.ite (.bin .eql 3 (.load 3 (.fa 57 (.loc 5) 0)) (.val (.int .i64 1))) (.bin .geq 3 (.call 45 [(.load 9 (.fa 57 (.loc 5) 1))]) (.val (.int .i64 0))) (.val (.bool false)))
          (.seq
            (.eff none (.store 29 (.tmp 0) (.tmp 1)) [(.loc 4), (.bld 29 [0, 2, 4] [(.val (.int .i64 4)), (.loc 1), (.bld 27 [2] [(.call 45 [(.load 9 (.fa 57 (.loc 5) 1))])])])])
            .ret)
          .skip)
        (.seq
          (.cond (.ite (.bin .neq 3 (.load 3 (.fa 57 (.loc 5) 0)) (.val (.int .i64 1))) (.val (.bool true)) (.call 48 [(.load 9 (.fa 57 (.loc 5) 1))]))
            (.cal (some 34) (.val (.fn 26 [])) [(.loc 0), (.load 3 (.fa 57 (.loc 5) 3))])
            .skip)
          (.seq
            (.raw (regOps F.c47 6) true)
            .ret)))))
theorem D.ok47 : digFn cfg.P cfg.inl D.h47 2 F.c47 = some D.s47 := by rw [cfgP, cfgIn]; kernel_rfl
theorem D.i47 {n : Nat} {ns : List Nat} {a0 a1 : AV} {H H' : Heap} {v : AV} (h : finI cfg.P [.cell 4 29] H.length (sexec cfg (acall cfg n) D.s47 (H.length :: ns) (a0 :: a1 :: .undef :: .undef :: .undef :: .undef :: .undef :: .undef :: .undef :: .undef :: .undef :: .undef :: .undef :: .undef :: .undef :: .undef :: .undef :: .undef :: .undef :: .undef :: .undef :: .undef :: .undef :: .undef :: .undef :: .undef :: .undef :: .undef :: .undef :: .undef :: .undef :: .undef :: .undef :: .undef :: .undef :: .undef :: .undef :: .undef :: .undef :: .undef :: .undef :: pad 0) H) = .ok v H') : acall cfg (n + 1) ns 47 [a0, a1] H = .ok v H' := by
  rw [acall, F.inl47, if_pos rfl]; exact icall_dig (acall_val cfg n) F.fn47 F.ok47 rfl rfl rfl D.ok47 (by rw [env0S_pad (m := 41) (by simp) (by decide)]; exact h)
/- 48 augury/auguryref4.Word -/
def D.h48 : Hint := { nt := 26, keep := [0, 2, 3, 4, 5], raws := [], cals := [], rs := [[2, 5]] }
noncomputable def D.b48_0 : S := 
  (.seq
    (.cond (.bin .lss 3 (.loc 4) (.len 34 (.loc 3)))
      .skip
      (.exit 0))
    (.seq
      (.block 1
        (.cond (.bin .eql 9 (.load 9 (.ia 34 (.loc 3) (.loc 4))) (.loc 0))
          (.seq
            (.sets [(2, (.val (.bool true)))])
            .ret)
          .skip))
      (.sets [(4, (.bin .add 3 (.loc 4) (.val (.int .i64 1))))])))
theorem D.e48_0 {C : Cfg} {call : Callee'} {ns : List Nat} {L : Env} {H : Heap} : sexec C call D.b48_0 ns L H = sexec C call
  (.seq
    (.cond (.bin .lss 3 (.loc 4) (.len 34 (.loc 3)))
      .skip
      (.exit 0))
    (.seq
      (.block 1
        (.cond (.bin .eql 9 (.load 9 (.ia 34 (.loc 3) (.loc 4))) (.loc 0))
          (.seq
            (.sets [(2, (.val (.bool true)))])
            .ret)
          .skip))
      (.sets [(4, (.bin .add 3 (.loc 4) (.val (.int .i64 1))))]))) ns L H := rfl
noncomputable def D.x48_0 : List X := [(.val (.str [119, 105, 100, 116, 104])), (.val (.str [119, 105, 110, 100, 111, 119])), (.val (.str [102, 117, 101, 108])), (.val (.str [112, 117, 98, 108, 105, 99])), (.val (.str [115, 101, 99, 114, 101, 116])), (.val (.str [109, 111, 118])), (.val (.str [108, 111, 97, 100])), (.val (.str [115, 116, 111, 114, 101])), (.val (.str [99, 109, 111, 118])), (.val (.str [98, 114])), (.val (.str [106, 109, 112])), (.val (.str [99, 97, 108, 108])), (.val (.str [105, 110, 100])), (.val (.str [114, 101, 116])), (.val (.str [102, 101, 110, 99, 101])), (.val (.str [104, 97, 108, 116]))]
noncomputable def D.s48 : S := 
  (.seq
    (.sets [(2, (.val (.bool false)))])
    (.seq
      (.seq
        (.eff (some 5) (.buildSlice 34 16 #[(0, .tmp 0), (1, .tmp 1), (2, .tmp 2), (3, .tmp 3), (4, .tmp 4), (5, .tmp 5), (6, .tmp 6), (7, .tmp 7), (8, .tmp 8), (9, .tmp 9), (10, .tmp 10), (11, .tmp 11), (12, .tmp 12), (13, .tmp 13), (14, .tmp 14), (15, .tmp 15)]) D.x48_0)
        (.sets [(3, (.loc 5))]))
      (.seq
        (.seq
          (.sets [(4, (.val (.int .i64 0)))])
          (.block 0
            (.loop [2, 5] D.b48_0)))
        (.seq
          (.sets [(2, (.ite (.bin .gtr 3 (.call 69 [(.loc 0)]) (.val (.int .i64 0))) (.val (.bool true)) (.bin .geq 3 (.call 45 [(.loc 0)]) (.val (.int .i64 0)))))])
          .ret))))
theorem D.ok48 : digFn cfg.P cfg.inl D.h48 1 F.c48 = some D.s48 := by rw [cfgP, cfgIn]; kernel_rfl
theorem D.v48 {n : Nat} {a0 : AV} {v : AV} (h : finV cfg.P [.tmp 2] (sexec cfg (acall cfg n) D.s48 [] (a0 :: .undef :: .undef :: .undef :: .undef :: .undef :: pad 20) []) = some v) : vcall cfg (acall cfg n) 48 [a0] = some v := vcall_dig (acall_val cfg n) (cfgPrim _ _ (by decide)) F.fn48 F.ok48 rfl rfl rfl D.ok48 (by rw [env0S_pad (m := 6) (by simp) (by decide)]; exact h)
@[simp] theorem D.a48 (n : Nat) (ns : List Nat) (args : List AV) (H : Heap) : acall cfg (n + 1) ns 48 args H = callV cfg n 48 args H := acall_callV F.inl48
/- 49 (*augury/auguryref4.line).ins -/
def D.h49 : Hint := { nt := 138, keep := [0, 1, 3, 4, 5, 6, 7, 9, 12, 13, 16, 19, 21, 24, 26, 31, 36, 38, 43, 47, 49, 54, 56, 58, 63, 67, 69, 72, 74, 80, 96, 98, 101, 103, 106, 108, 113, 119, 125], raws := [], cals := [], rs := [] }
noncomputable def D.s49 : S := 
  (.seq
    (.seq
      (.eff (some 3) (.box 57 (.tmp 0)) [(.loc 1)])
      (.eff (some 4) (.alloc 27) []))
    (.seq
      (.seq
        (.seq
          (.sets [(7, (.bld 27 [] []))])
          (.eff (some 5) (.alloc 27) []))
        (.eff none (.store 27 (.tmp 0) (.tmp 1)) [(.loc 5), (.loc 7)]))
      (.seq
        (.seq
          (.sets [(9, (.load 9 (.fa 57 (.loc 3) 1)))])
          (.block 0
            (.cond (.bin .eql 9 (.loc 9) (.val (.str [109, 111, 118])))
              (.seq
                (.seq
                  (.cal (some 31) (.val (.fn 70 [])) [(.loc 0)])
                  (.seq
                    (.eff none (.store 3 (.tmp 0) (.tmp 1)) [(.fa 27 (.loc 5) 0), (.val (.int .i64 1))])
                    (.seq
                      (.eff none (.store 3 (.tmp 0) (.tmp 1)) [(.fa 27 (.loc 5) 1), (.val (.int .i64 4))])
                      (.eff none (.store 3 (.tmp 0) (.tmp 1)) [(.fa 27 (.loc 5) 2), (.loc 31)]))))
                (.seq
                  (.cal (some 36) (.val (.fn 50 [])) [(.loc 0), (.val (.str [44]))])
                  (.seq
                    (.cal (some 38) (.val (.fn 71 [])) [(.loc 0)])
                    (.eff none (.store 25 (.tmp 0) (.tmp 1)) [(.fa 27 (.loc 5) 3), (.loc 38)]))))
              (.cond (.bin .eql 9 (.loc 9) (.val (.str [108, 111, 97, 100])))
                (.seq
                  (.seq
                    (.cal (some 43) (.val (.fn 70 [])) [(.loc 0)])
                    (.seq
                      (.eff none (.store 3 (.tmp 0) (.tmp 1)) [(.fa 27 (.loc 5) 0), (.val (.int .i64 2))])
                      (.eff none (.store 3 (.tmp 0) (.tmp 1)) [(.fa 27 (.loc 5) 2), (.loc 43)])))
                  (.seq
                    (.cal (some 47) (.val (.fn 50 [])) [(.loc 0), (.val (.str [44]))])
                    (.cal (some 49) (.val (.fn 72 [])) [(.loc 0), (.loc 5)])))
                (.cond (.bin .eql 9 (.loc 9) (.val (.str [115, 116, 111, 114, 101])))
                  (.seq
                    (.eff none (.store 3 (.tmp 0) (.tmp 1)) [(.fa 27 (.loc 5) 0), (.val (.int .i64 3))])
                    (.seq
                      (.cal (some 54) (.val (.fn 72 [])) [(.loc 0), (.loc 5)])
                      (.seq
                        (.cal (some 56) (.val (.fn 50 [])) [(.loc 0), (.val (.str [44]))])
                        (.seq
                          (.cal (some 58) (.val (.fn 70 [])) [(.loc 0)])
                          (.eff none (.store 3 (.tmp 0) (.tmp 1)) [(.fa 27 (.loc 5) 2), (.loc 58)])))))
                  (.cond (.bin .eql 9 (.loc 9) (.val (.str [99, 109, 111, 118])))
                    (.seq
                      (.seq
                        (.cal (some 63) (.val (.fn 70 [])) [(.loc 0)])
                        (.seq
                          (.eff none (.store 3 (.tmp 0) (.tmp 1)) [(.fa 27 (.loc 5) 0), (.val (.int .i64 4))])
                          (.eff none (.store 3 (.tmp 0) (.tmp 1)) [(.fa 27 (.loc 5) 2), (.loc 63)])))
                      (.seq
                        (.cal (some 67) (.val (.fn 50 [])) [(.loc 0), (.val (.str [44]))])
                        (.seq
                          (.seq
                            (.cal (some 69) (.val (.fn 71 [])) [(.loc 0)])
                            (.eff none (.store 25 (.tmp 0) (.tmp 1)) [(.fa 27 (.loc 5) 3), (.loc 69)]))
                          (.seq
                            (.cal (some 72) (.val (.fn 50 [])) [(.loc 0), (.val (.str [44]))])
                            (.seq
                              (.cal (some 74) (.val (.fn 71 [])) [(.loc 0)])
                              (.eff none (.store 25 (.tmp 0) (.tmp 1)) [(.fa 27 (.loc 5) 4), (.loc 74)]))))))
                    (.cond (.bin .eql 9 (.loc 9) (.val (.str [98, 114])))
                      (.seq
                        (.eff none (.store 3 (.tmp 0) (.tmp 1)) [(.fa 27 (.loc 5) 0), (.val (.int .i64 5))])
                        (.seq
                          (.seq
                            (.cal (some 80) (.val (.fn 44 [])) [(.loc 0)])
                            (.seq
                              (.eff (some 6) (.alloc 57) [])
                              (.eff none (.store 57 (.tmp 0) (.tmp 1)) [(.loc 6), (.loc 80)])))
                          (.seq
                            (.seq
                              (.eff none (.store 3 (.tmp 0) (.tmp 1)) [(.fa 27 (.loc 5) 1), (.call 69 [(.load 9 (.fa 57 (.loc 6) 1))])])
                              (.cond (.ite (.bin .neq 3 (.load 3 (.fa 57 (.loc 6) 0)) (.val (.int .i64 1))) (.val (.bool true)) (.bin .eql 3 (.load 3 (.fa 27 (.loc 5) 1)) (.val (.int .i64 0))))
                                (.cal (some 96) (.val (.fn 26 [])) [(.loc 0), (.load 3 (.fa 57 (.loc 6) 3))])
                                .skip))
                            (.seq
                              (.seq
                                (.cal (some 98) (.val (.fn 71 [])) [(.loc 0)])
                                (.eff none (.store 25 (.tmp 0) (.tmp 1)) [(.fa 27 (.loc 5) 3), (.loc 98)]))
                              (.seq
                                (.cal (some 101) (.val (.fn 50 [])) [(.loc 0), (.val (.str [44]))])
                                (.seq
                                  (.seq
                                    (.cal (some 103) (.val (.fn 71 [])) [(.loc 0)])
                                    (.eff none (.store 25 (.tmp 0) (.tmp 1)) [(.fa 27 (.loc 5) 4), (.loc 103)]))
                                  (.seq
                                    (.cal (some 106) (.val (.fn 50 [])) [(.loc 0), (.val (.str [44]))])
                                    (.seq
                                      (.cal (some 108) (.val (.fn 73 [])) [(.loc 0)])
                                      (.eff none (.store 9 (.tmp 0) (.tmp 1)) [(.fa 27 (.loc 5) 5), (.loc 108)])))))))))
                      (.cond (.bin .eql 9 (.loc 9) (.val (.str [106, 109, 112])))
                        (.seq
                          (.cal (some 113) (.val (.fn 73 [])) [(.loc 0)])
                          (.seq
                            (.eff none (.store 3 (.tmp 0) (.tmp 1)) [(.fa 27 (.loc 5) 0), (.val (.int .i64 6))])
                            (.eff none (.store 9 (.tmp 0) (.tmp 1)) [(.fa 27 (.loc 5) 5), (.loc 113)])))
                        (.cond (.bin .eql 9 (.loc 9) (.val (.str [99, 97, 108, 108])))
                          (.seq
                            (.cal (some 119) (.val (.fn 73 [])) [(.loc 0)])
                            (.seq
                              (.eff none (.store 3 (.tmp 0) (.tmp 1)) [(.fa 27 (.loc 5) 0), (.val (.int .i64 8))])
                              (.eff none (.store 9 (.tmp 0) (.tmp 1)) [(.fa 27 (.loc 5) 5), (.loc 119)])))
                          (.cond (.bin .eql 9 (.loc 9) (.val (.str [105, 110, 100])))
                            (.seq
                              (.cal (some 125) (.val (.fn 71 [])) [(.loc 0)])
                              (.seq
                                (.eff none (.store 3 (.tmp 0) (.tmp 1)) [(.fa 27 (.loc 5) 0), (.val (.int .i64 7))])
                                (.eff none (.store 25 (.tmp 0) (.tmp 1)) [(.fa 27 (.loc 5) 3), (.loc 125)])))
                            (.cond (.bin .eql 9 (.loc 9) (.val (.str [114, 101, 116])))
                              (.eff none (.store 3 (.tmp 0) (.tmp 1)) [(.fa 27 (.loc 5) 0), (.val (.int .i64 9))])
                              (.cond (.bin .eql 9 (.loc 9) (.val (.str [102, 101, 110, 99, 101])))
                                (.eff none (.store 3 (.tmp 0) (.tmp 1)) [(.fa 27 (.loc 5) 0), (.val (.int .i64 10))])
                                (.cond (.bin .eql 9 (.loc 9) (.val (.str [104, 97, 108, 116])))
                                  (.eff none (.store 3 (.tmp 0) (.tmp 1)) [(.fa 27 (.loc 5) 0), (.val (.int .i64 11))])
                                  (.seq
                                    (.seq
                                      (.seq
                                        (.sets [(13, (.fa 27 (.loc 5) 0)), (12, (.call 69 [(.load 9 (.fa 57 (.loc 3) 1))]))])
                                        (.eff none (.store 3 (.tmp 0) (.tmp 1)) [(.loc 13), (.val (.int .i64 1))]))
                                      (.eff none (.store 3 (.tmp 0) (.tmp 1)) [(.fa 27 (.loc 5) 1), (.loc 12)]))
                                    (.seq
                                      (.seq
                                        (.cal (some 16) (.val (.fn 70 [])) [(.loc 0)])
                                        (.eff none (.store 3 (.tmp 0) (.tmp 1)) [(.fa 27 (.loc 5) 2), (.loc 16)]))
                                      (.seq
                                        (.cal (some 19) (.val (.fn 50 [])) [(.loc 0), (.val (.str [44]))])
                                        (.seq
                                          (.seq
                                            (.cal (some 21) (.val (.fn 71 [])) [(.loc 0)])
                                            (.eff none (.store 25 (.tmp 0) (.tmp 1)) [(.fa 27 (.loc 5) 3), (.loc 21)]))
                                          (.seq
                                            (.cal (some 24) (.val (.fn 50 [])) [(.loc 0), (.val (.str [44]))])
                                            (.seq
                                              (.cal (some 26) (.val (.fn 71 [])) [(.loc 0)])
                                              (.eff none (.store 25 (.tmp 0) (.tmp 1)) [(.fa 27 (.loc 5) 4), (.loc 26)]))))))))))))))))))))
        (.seq
          (.eff none (.store 27 (.tmp 0) (.tmp 1)) [(.loc 4), (.load 27 (.loc 5))])
          .ret))))
theorem D.ok49 : digFn cfg.P cfg.inl D.h49 2 F.c49 = some D.s49 := by rw [cfgP, cfgIn]; kernel_rfl
theorem D.i49 {n : Nat} {ns : List Nat} {a0 a1 : AV} {H H' : Heap} {v : AV} (h : finI cfg.P [.cell 4 27] H.length (sexec cfg (acall cfg n) D.s49 (H.length :: ns) (a0 :: a1 :: .undef :: .undef :: .undef :: .undef :: .undef :: .undef :: .undef :: .undef :: .undef :: .undef :: .undef :: .undef :: .undef :: .undef :: .undef :: .undef :: .undef :: .undef :: .undef :: .undef :: .undef :: .undef :: .undef :: .undef :: .undef :: .undef :: .undef :: .undef :: .undef :: .undef :: .undef :: .undef :: .undef :: .undef :: .undef :: .undef :: .undef :: .undef :: .undef :: .undef :: .undef :: .undef :: .undef :: .undef :: .undef :: .undef :: .undef :: .undef :: .undef :: .undef :: .undef :: .undef :: .undef :: .undef :: .undef :: .undef :: .undef :: .undef :: .undef :: .undef :: .undef :: .undef :: .undef :: .undef :: .undef :: .undef :: .undef :: .undef :: .undef :: .undef :: .undef :: .undef :: .undef :: .undef :: .undef :: .undef :: .undef :: .undef :: .undef :: .undef :: .undef :: .undef :: .undef :: .undef :: .undef :: .undef :: .undef :: .undef :: .undef :: .undef :: .undef :: .undef :: .undef :: .undef :: .undef :: .undef :: .undef :: .undef :: .undef :: .undef :: .undef :: .undef :: .undef :: .undef :: .undef :: .undef :: .undef :: .undef :: .undef :: .undef :: .undef :: .undef :: .undef :: .undef :: .undef :: .undef :: .undef :: .undef :: .undef :: .undef :: .undef :: .undef :: .undef :: .undef :: pad 12) H) = .ok v H') : acall cfg (n + 1) ns 49 [a0, a1] H = .ok v H' := by
  rw [acall, F.inl49, if_pos rfl]; exact icall_dig (acall_val cfg n) F.fn49 F.ok49 rfl rfl rfl D.ok49 (by rw [env0S_pad (m := 126) (by simp) (by decide)]; exact h)
/- 50 (*augury/auguryref4.line).sign -/
def D.h50 : Hint := { nt := 20, keep := [0, 1, 4, 6, 19], raws := [], cals := [], rs := [] }
noncomputable def D.s50 : S := 
  (.seq
    (.seq
      (.cal (some 6) (.val (.fn 44 [])) [(.loc 0)])
      (.seq
        (.eff (some 4) (.alloc 57) [])
        (.eff none (.store 57 (.tmp 0) (.tmp 1)) [(.loc 4), (.loc 6)])))
    (.cond (.ite (.bin .neq 3 (.load 3 (.fa 57 (.loc 4) 0)) (.val (.int .i64 3))) (.val (.bool true)) (.bin .neq 9 (.load 9 (.fa 57 (.loc 4) 1)) (.loc 1)))
      (.cal (some 19) (.val (.fn 26 [])) [(.loc 0), (.load 3 (.fa 57 (.loc 4) 3))])
      .skip))
theorem D.ok50 : digFn cfg.P cfg.inl D.h50 2 F.c50 = some D.s50 := by rw [cfgP, cfgIn]; kernel_rfl
theorem D.i50 {n : Nat} {ns : List Nat} {a0 a1 : AV} {H H' : Heap} {v : AV} (h : finI cfg.P [] H.length (sexec cfg (acall cfg n) D.s50 (H.length :: ns) (a0 :: a1 :: .undef :: .undef :: .undef :: .undef :: .undef :: .undef :: .undef :: .undef :: .undef :: .undef :: .undef :: .undef :: .undef :: .undef :: .undef :: .undef :: .undef :: .undef :: pad 0) H) = .ok v H') : acall cfg (n + 1) ns 50 [a0, a1] H = .ok v H' := by
  rw [acall, F.inl50, if_pos rfl]; exact icall_dig (acall_val cfg n) F.fn50 F.ok50 rfl rfl rfl D.ok50 (by rw [env0S_pad (m := 20) (by simp) (by decide)]; exact h)
/- 51 augury/auguryref4.Digits -/
def D.h51 : Hint := { nt := 23, keep := [0, 2, 3, 16], raws := [], cals := [], rs := [[2, 16]] }
noncomputable def D.b51_0 : S := 
  (.seq
    (.cond (.ite (.bin .gtr 3 (.loc 0) (.val (.int .i64 0))) (.val (.bool true)) (.bin .eql 9 (.loc 3) (.val (.str []))))
      .skip
      (.exit 0))
    (.block 1
      (.seq
        (.seq
          (.eff (some 16) (.buildSlice 44 1 #[(0, .tmp 0)]) [(.conv 3 5 (.bin .add 3 (.val (.int .i64 48)) (.bin .rem 3 (.loc 0) (.val (.int .i64 10)))))])
          (.sets [(3, (.bin .add 9 (.conv 44 9 (.loc 16)) (.loc 3)))]))
        (.sets [(0, (.bin .quo 3 (.loc 0) (.val (.int .i64 10))))]))))
theorem D.e51_0 {C : Cfg} {call : Callee'} {ns : List Nat} {L : Env} {H : Heap} : sexec C call D.b51_0 ns L H = sexec C call
  (.seq
    (.cond (.ite (.bin .gtr 3 (.loc 0) (.val (.int .i64 0))) (.val (.bool true)) (.bin .eql 9 (.loc 3) (.val (.str []))))
      .skip
      (.exit 0))
    (.block 1
      (.seq
        (.seq
          (.eff (some 16) (.buildSlice 44 1 #[(0, .tmp 0)]) [(.conv 3 5 (.bin .add 3 (.val (.int .i64 48)) (.bin .rem 3 (.loc 0) (.val (.int .i64 10)))))])
          (.sets [(3, (.bin .add 9 (.conv 44 9 (.loc 16)) (.loc 3)))]))
        (.sets [(0, (.bin .quo 3 (.loc 0) (.val (.int .i64 10))))])))) ns L H := rfl
noncomputable def D.s51 : S := 
  (.seq
    (.sets [(2, (.val (.str [])))])
    (.seq
      (.cond (.bin .lss 3 (.loc 0) (.val (.int .i64 0)))
        (.seq
          (.sets [(2, (.val (.str [45])))])
          .ret)
        .skip)
      (.seq
        (.sets [(3, (.val (.str [])))])
        (.seq
          (.block 0
            (.loop [2, 16] D.b51_0))
          (.seq
            (.sets [(2, (.loc 3))])
            .ret)))))
theorem D.ok51 : digFn cfg.P cfg.inl D.h51 1 F.c51 = some D.s51 := by rw [cfgP, cfgIn]; kernel_rfl
theorem D.v51 {n : Nat} {a0 : AV} {v : AV} (h : finV cfg.P [.tmp 2] (sexec cfg (acall cfg n) D.s51 [] (a0 :: .undef :: .undef :: .undef :: .undef :: .undef :: .undef :: .undef :: .undef :: .undef :: .undef :: .undef :: .undef :: .undef :: .undef :: .undef :: .undef :: pad 6) []) = some v) : vcall cfg (acall cfg n) 51 [a0] = some v := vcall_dig (acall_val cfg n) (cfgPrim _ _ (by decide)) F.fn51 F.ok51 rfl rfl rfl D.ok51 (by rw [env0S_pad (m := 17) (by simp) (by decide)]; exact h)
@[simp] theorem D.a51 (n : Nat) (ns : List Nat) (args : List AV) (H : Heap) : acall cfg (n + 1) ns 51 args H = callV cfg n 51 args H := acall_callV F.inl51
/- 52 augury/auguryref4.insText -/
def D.h52 : Hint := { nt := 97, keep := [0, 1, 2, 3, 4, 5, 29], raws := [], cals := [], rs := [] }
noncomputable def D.s52 : S := 
  (.seq
    (.seq
      (.eff (some 1) (.box 27 (.tmp 0)) [(.loc 0)])
      (.sets [(2, (.val (.str [])))]))
    (.seq
      (.sets [(3, (.bin .add 9 (.val (.str [114])) (.call 51 [(.load 3 (.fa 27 (.loc 1) 2))])))])
      (.seq
        (.sets [(4, (.bin .add 9 (.bin .add 9 (.bin .add 9 (.bin .add 9 (.val (.str [91])) (.call 74 [(.load 25 (.fa 27 (.loc 1) 3))])) (.val (.str [32, 43, 32]))) (.call 74 [(.load 25 (.fa 27 (.loc 1) 4))])) (.val (.str [93]))))])
        (.seq
          (.sets [(5, (.bin .add 9 (.bin .add 9 (.call 74 [(.load 25 (.fa 27 (.loc 1) 3))]) (.val (.str [44, 32]))) (.call 74 [(.load 25 (.fa 27 (.loc 1) 4))])))])
          (.seq
            (.seq
              (.sets [(29, (.load 3 (.fa 27 (.loc 1) 0)))])
              (.block 0
                (.cond (.bin .eql 3 (.loc 29) (.val (.int .i64 1)))
                  (.seq
                    (.sets [(2, (.bin .add 9 (.bin .add 9 (.bin .add 9 (.bin .add 9 (.call 75 [(.load 3 (.fa 27 (.loc 1) 1))]) (.val (.str [32]))) (.loc 3)) (.val (.str [44, 32]))) (.loc 5)))])
                    .ret)
                  (.cond (.bin .eql 3 (.loc 29) (.val (.int .i64 2)))
                    (.seq
                      (.sets [(2, (.bin .add 9 (.bin .add 9 (.bin .add 9 (.val (.str [108, 111, 97, 100, 32])) (.loc 3)) (.val (.str [44, 32]))) (.loc 4)))])
                      .ret)
                    (.cond (.bin .eql 3 (.loc 29) (.val (.int .i64 3)))
                      (.seq
                        (.sets [(2, (.bin .add 9 (.bin .add 9 (.bin .add 9 (.val (.str [115, 116, 111, 114, 101, 32])) (.loc 4)) (.val (.str [44, 32]))) (.loc 3)))])
                        .ret)
                      (.cond (.bin .eql 3 (.loc 29) (.val (.int .i64 4)))
                        (.seq
                          (.sets [(2, (.bin .add 9 (.bin .add 9 (.bin .add 9 (.val (.str [99, 109, 111, 118, 32])) (.loc 3)) (.val (.str [44, 32]))) (.loc 5)))])
                          .ret)
                        (.cond (.bin .eql 3 (.loc 29) (.val (.int .i64 5)))
                          (.seq
                            (.sets [(2, (.bin .add 9 (.bin .add 9 (.bin .add 9 (.bin .add 9 (.bin .add 9 (.val (.str [98, 114, 32])) (.call 75 [(.load 3 (.fa 27 (.loc 1) 1))])) (.val (.str [32]))) (.loc 5)) (.val (.str [44, 32]))) (.load 9 (.fa 27 (.loc 1) 5))))])
                            .ret)
                          (.cond (.bin .eql 3 (.loc 29) (.val (.int .i64 6)))
                            (.seq
                              (.sets [(2, (.bin .add 9 (.val (.str [106, 109, 112, 32])) (.load 9 (.fa 27 (.loc 1) 5))))])
                              .ret)
                            (.cond (.bin .eql 3 (.loc 29) (.val (.int .i64 8)))
                              (.seq
                                (.sets [(2, (.bin .add 9 (.val (.str [99, 97, 108, 108, 32])) (.load 9 (.fa 27 (.loc 1) 5))))])
                                .ret)
                              (.cond (.bin .eql 3 (.loc 29) (.val (.int .i64 7)))
                                (.seq
                                  (.sets [(2, (.bin .add 9 (.val (.str [105, 110, 100, 32])) (.call 74 [(.load 25 (.fa 27 (.loc 1) 3))])))])
                                  .ret)
                                (.cond (.bin .eql 3 (.loc 29) (.val (.int .i64 9)))
                                  (.seq
                                    (.sets [(2, (.val (.str [114, 101, 116])))])
                                    .ret)
                                  (.cond (.bin .eql 3 (.loc 29) (.val (.int .i64 10)))
                                    (.seq
                                      (.sets [(2, (.val (.str [102, 101, 110, 99, 101])))])
                                      .ret)
                                    (.cond (.bin .eql 3 (.loc 29) (.val (.int .i64 11)))
                                      (.seq
                                        (.sets [(2, (.val (.str [104, 97, 108, 116])))])
                                        .ret)
                                      .skip)))))))))))))
            (.seq
              (.sets [(2, (.val (.str [63])))])
              .ret))))))
theorem D.ok52 : digFn cfg.P cfg.inl D.h52 1 F.c52 = some D.s52 := by rw [cfgP, cfgIn]; kernel_rfl
theorem D.v52 {n : Nat} {a0 : AV} {v : AV} (h : finV cfg.P [.tmp 2] (sexec cfg (acall cfg n) D.s52 [] (a0 :: .undef :: .undef :: .undef :: .undef :: .undef :: .undef :: .undef :: .undef :: .undef :: .undef :: .undef :: .undef :: .undef :: .undef :: .undef :: .undef :: .undef :: .undef :: .undef :: .undef :: .undef :: .undef :: .undef :: .undef :: .undef :: .undef :: .undef :: .undef :: .undef :: pad 67) []) = some v) : vcall cfg (acall cfg n) 52 [a0] = some v := vcall_dig (acall_val cfg n) (cfgPrim _ _ (by decide)) F.fn52 F.ok52 rfl rfl rfl D.ok52 (by rw [env0S_pad (m := 30) (by simp) (by decide)]; exact h)
@[simp] theorem D.a52 (n : Nat) (ns : List Nat) (args : List AV) (H : Heap) : acall cfg (n + 1) ns 52 args H = callV cfg n 52 args H := acall_callV F.inl52
/- 53 augury/lexr.letter -/
def D.h53 : Hint := { nt := 9, keep := [0, 2], raws := [], cals := [], rs := [] }
noncomputable def D.s53 : S := 
  (.seq
    (.sets [(2, (.val (.bool false)))])
    (.seq
      (.sets [(2, (.ite (.bin .geq 21 (.loc 0) (.val (.int .i32 97))) (.bin .leq 21 (.loc 0) (.val (.int .i32 122))) (.val (.bool false))))])
      .ret))
theorem D.ok53 : digFn cfg.P cfg.inl D.h53 1 F.c53 = some D.s53 := by rw [cfgP, cfgIn]; kernel_rfl
theorem D.v53 {n : Nat} {a0 : AV} {v : AV} (h : finV cfg.P [.tmp 2] (sexec cfg (acall cfg n) D.s53 [] (a0 :: .undef :: .undef :: pad 6) []) = some v) : vcall cfg (acall cfg n) 53 [a0] = some v := vcall_dig (acall_val cfg n) (cfgPrim _ _ (by decide)) F.fn53 F.ok53 rfl rfl rfl D.ok53 (by rw [env0S_pad (m := 3) (by simp) (by decide)]; exact h)
@[simp] theorem D.a53 (n : Nat) (ns : List Nat) (args : List AV) (H : Heap) : acall cfg (n + 1) ns 53 args H = callV cfg n 53 args H := acall_callV F.inl53
/- 54 augury/lexr.name -/
def D.h54 : Hint := { nt := 17, keep := [0, 1, 4, 5, 9], raws := [], cals := [], rs := [] }
noncomputable def D.s54 : S := 
  (.seq
    (.sets [(4, (.val (.int .i64 0)))])
    (.seq
      (.seq
        (.cal (some 9) (.val (.fn 76 [])) [(.slh 58 (.loc 0) (.loc 1)), (.val (.fn 77 []))])
        (.sets [(5, (.loc 9))]))
      (.seq
        (.cond (.bin .lss 3 (.loc 5) (.val (.int .i64 0)))
          (.seq
            (.sets [(4, (.len 58 (.loc 0)))])
            .ret)
          .skip)
        (.seq
          (.sets [(4, (.bin .add 3 (.loc 1) (.loc 5)))])
          .ret))))
theorem D.ok54 : digFn cfg.P cfg.inl D.h54 2 F.c54 = some D.s54 := by rw [cfgP, cfgIn]; kernel_rfl
theorem D.v54 {n : Nat} {a0 a1 : AV} {v : AV} (h : finV cfg.P [.tmp 4] (sexec cfg (acall cfg n) D.s54 [] (a0 :: a1 :: .undef :: .undef :: .undef :: .undef :: .undef :: .undef :: .undef :: .undef :: pad 7) []) = some v) : vcall cfg (acall cfg n) 54 [a0, a1] = some v := vcall_dig (acall_val cfg n) (cfgPrim _ _ (by decide)) F.fn54 F.ok54 rfl rfl rfl D.ok54 (by rw [env0S_pad (m := 10) (by simp) (by decide)]; exact h)
@[simp] theorem D.a54 (n : Nat) (ns : List Nat) (args : List AV) (H : Heap) : acall cfg (n + 1) ns 54 args H = callV cfg n 54 args H := acall_callV F.inl54
/- 55 augury/lexr.Digit -/
def D.h55 : Hint := { nt := 9, keep := [0, 2], raws := [], cals := [], rs := [] }
noncomputable def D.s55 : S := 
  (.seq
    (.sets [(2, (.val (.bool false)))])
    (.seq
      (.sets [(2, (.ite (.bin .geq 21 (.loc 0) (.val (.int .i32 48))) (.bin .leq 21 (.loc 0) (.val (.int .i32 57))) (.val (.bool false))))])
      .ret))
theorem D.ok55 : digFn cfg.P cfg.inl D.h55 1 F.c55 = some D.s55 := by rw [cfgP, cfgIn]; kernel_rfl
theorem D.v55 {n : Nat} {a0 : AV} {v : AV} (h : finV cfg.P [.tmp 2] (sexec cfg (acall cfg n) D.s55 [] (a0 :: .undef :: .undef :: pad 6) []) = some v) : vcall cfg (acall cfg n) 55 [a0] = some v := vcall_dig (acall_val cfg n) (cfgPrim _ _ (by decide)) F.fn55 F.ok55 rfl rfl rfl D.ok55 (by rw [env0S_pad (m := 3) (by simp) (by decide)]; exact h)
@[simp] theorem D.a55 (n : Nat) (ns : List Nat) (args : List AV) (H : Heap) : acall cfg (n + 1) ns 55 args H = callV cfg n 55 args H := acall_callV F.inl55
/- 56 augury/lexr.Num -/
def D.h56 : Hint := { nt := 63, keep := [0, 1, 2, 6, 7, 8, 9, 10], raws := [], cals := [], rs := [[6, 7, 8]] }
noncomputable def D.b56_0 : S := 
  (.seq
    (.cond (.ite (.ite (.bin .lss 3 (.loc 1) (.len 58 (.loc 0))) (.call 55 [(.load 21 (.ia 58 (.loc 0) (.loc 1)))]) (.val (.bool false))) (.bin .lss 3 (.bin .sub 3 (.loc 1) (.loc 10)) (.loc 2)) (.val (.bool false)))
      .skip
      (.exit 0))
    (.block 1
      (.seq
        (.sets [(9, (.bin .add 3 (.bin .mul 3 (.val (.int .i64 10)) (.loc 9)) (.conv 21 3 (.bin .sub 21 (.load 21 (.ia 58 (.loc 0) (.loc 1))) (.val (.int .i32 48))))))])
        (.sets [(1, (.bin .add 3 (.loc 1) (.val (.int .i64 1))))]))))
theorem D.e56_0 {C : Cfg} {call : Callee'} {ns : List Nat} {L : Env} {H : Heap} : sexec C call D.b56_0 ns L H = sexec C call
  (.seq
    (.cond (.ite (.ite (.bin .lss 3 (.loc 1) (.len 58 (.loc 0))) (.call 55 [(.load 21 (.ia 58 (.loc 0) (.loc 1)))]) (.val (.bool false))) (.bin .lss 3 (.bin .sub 3 (.loc 1) (.loc 10)) (.loc 2)) (.val (.bool false)))
      .skip
      (.exit 0))
    (.block 1
      (.seq
        (.sets [(9, (.bin .add 3 (.bin .mul 3 (.val (.int .i64 10)) (.loc 9)) (.conv 21 3 (.bin .sub 21 (.load 21 (.ia 58 (.loc 0) (.loc 1))) (.val (.int .i32 48))))))])
        (.sets [(1, (.bin .add 3 (.loc 1) (.val (.int .i64 1))))])))) ns L H := rfl
noncomputable def D.s56 : S := 
  (.seq
    (.sets [(8, (.val (.bool false))), (7, (.val (.int .i64 0))), (6, (.val (.int .i64 0)))])
    (.seq
      (.cond (.ite (.bin .geq 3 (.loc 1) (.len 58 (.loc 0))) (.val (.bool true)) (.un .not (.call 55 [(.load 21 (.ia 58 (.loc 0) (.loc 1)))])))
        (.seq
          (.sets [(8, (.val (.bool false))), (7, (.loc 1)), (6, (.val (.int .i64 0)))])
          .ret)
        .skip)
      (.seq
        (.cond (.bin .eql 21 (.load 21 (.ia 58 (.loc 0) (.loc 1))) (.val (.int .i32 48)))
          (.seq
            (.sets [(8, (.val (.bool true))), (7, (.bin .add 3 (.loc 1) (.val (.int .i64 1)))), (6, (.val (.int .i64 0)))])
            .ret)
          .skip)
        (.seq
          (.sets [(10, (.loc 1)), (9, (.val (.int .i64 0)))])
          (.seq
            (.block 0
              (.loop [6, 7, 8] D.b56_0))
            (.seq
              (.sets [(8, (.val (.bool true))), (7, (.loc 1)), (6, (.loc 9))])
              .ret))))))
theorem D.ok56 : digFn cfg.P cfg.inl D.h56 3 F.c56 = some D.s56 := by rw [cfgP, cfgIn]; kernel_rfl
theorem D.v56 {n : Nat} {a0 a1 a2 : AV} {v : AV} (h : finV cfg.P [.tmp 6, .tmp 7, .tmp 8] (sexec cfg (acall cfg n) D.s56 [] (a0 :: a1 :: a2 :: .undef :: .undef :: .undef :: .undef :: .undef :: .undef :: .undef :: .undef :: pad 52) []) = some v) : vcall cfg (acall cfg n) 56 [a0, a1, a2] = some v := vcall_dig (acall_val cfg n) (cfgPrim _ _ (by decide)) F.fn56 F.ok56 rfl rfl rfl D.ok56 (by rw [env0S_pad (m := 11) (by simp) (by decide)]; exact h)
@[simp] theorem D.a56 (n : Nat) (ns : List Nat) (args : List AV) (H : Heap) : acall cfg (n + 1) ns 56 args H = callV cfg n 56 args H := acall_callV F.inl56
@[simp] theorem D.a57 (n : Nat) (ns : List Nat) (args : List AV) (H : Heap) : acall cfg (n + 1) ns 57 args H = callV cfg n 57 args H := acall_callV F.inl57
/- 58 augury/syns.op -/
def D.h58 : Hint := { nt := 7, keep := [0, 2], raws := [], cals := [], rs := [] }
noncomputable def D.s58 : S := 
  (.seq
    (.sets [(2, (.val (.int .i64 0)))])
    (.seq
      (.sets [(2, (.mm true (.call 79 [(.call 80 []), (.loc 0)]) (.val (.int .i64 0))))])
      .ret))
theorem D.ok58 : digFn cfg.P cfg.inl D.h58 1 F.c58 = some D.s58 := by rw [cfgP, cfgIn]; kernel_rfl
theorem D.v58 {n : Nat} {a0 : AV} {v : AV} (h : finV cfg.P [.tmp 2] (sexec cfg (acall cfg n) D.s58 [] (a0 :: .undef :: .undef :: pad 4) []) = some v) : vcall cfg (acall cfg n) 58 [a0] = some v := vcall_dig (acall_val cfg n) (cfgPrim _ _ (by decide)) F.fn58 F.ok58 rfl rfl rfl D.ok58 (by rw [env0S_pad (m := 3) (by simp) (by decide)]; exact h)
@[simp] theorem D.a58 (n : Nat) (ns : List Nat) (args : List AV) (H : Heap) : acall cfg (n + 1) ns 58 args H = callV cfg n 58 args H := acall_callV F.inl58
/- 59 slices.Contains[[]string,string] -/
def D.h59 : Hint := { nt := 9, keep := [0, 1, 4], raws := [], cals := [], rs := [] }
noncomputable def D.s59 : S := 
  (.seq
    (.sets [(4, (.val (.bool false)))])
    (.seq
      (.sets [(4, (.bin .geq 3 (.call 79 [(.loc 0), (.loc 1)]) (.val (.int .i64 0))))])
      .ret))
theorem D.ok59 : digFn cfg.P cfg.inl D.h59 2 F.c59 = some D.s59 := by rw [cfgP, cfgIn]; kernel_rfl
theorem D.v59 {n : Nat} {a0 a1 : AV} {v : AV} (h : finV cfg.P [.tmp 4] (sexec cfg (acall cfg n) D.s59 [] (a0 :: a1 :: .undef :: .undef :: .undef :: pad 4) []) = some v) : vcall cfg (acall cfg n) 59 [a0, a1] = some v := vcall_dig (acall_val cfg n) (cfgPrim _ _ (by decide)) F.fn59 F.ok59 rfl rfl rfl D.ok59 (by rw [env0S_pad (m := 5) (by simp) (by decide)]; exact h)
@[simp] theorem D.a59 (n : Nat) (ns : List Nat) (args : List AV) (H : Heap) : acall cfg (n + 1) ns 59 args H = callV cfg n 59 args H := acall_callV F.inl59
/- 60 augury/syns.words -/
def D.h60 : Hint := { nt := 2, keep := [0, 1], raws := [], cals := [], rs := [] }
noncomputable def D.x60_0 : List X := [(.val (.str [119, 105, 100, 116, 104])), (.val (.str [119, 105, 110, 100, 111, 119])), (.val (.str [102, 117, 101, 108])), (.val (.str [112, 117, 98, 108, 105, 99])), (.val (.str [115, 101, 99, 114, 101, 116])), (.val (.str [109, 111, 118])), (.val (.str [108, 111, 97, 100])), (.val (.str [115, 116, 111, 114, 101])), (.val (.str [99, 109, 111, 118])), (.val (.str [98, 114])), (.val (.str [106, 109, 112])), (.val (.str [99, 97, 108, 108])), (.val (.str [105, 110, 100])), (.val (.str [114, 101, 116])), (.val (.str [102, 101, 110, 99, 101])), (.val (.str [104, 97, 108, 116]))]
noncomputable def D.s60 : S := 
  (.seq
    (.eff (some 0) (.move (.const (.slice none 0 0))) [])
    (.seq
      (.seq
        (.eff (some 1) (.buildSlice 34 16 #[(0, .tmp 0), (1, .tmp 1), (2, .tmp 2), (3, .tmp 3), (4, .tmp 4), (5, .tmp 5), (6, .tmp 6), (7, .tmp 7), (8, .tmp 8), (9, .tmp 9), (10, .tmp 10), (11, .tmp 11), (12, .tmp 12), (13, .tmp 13), (14, .tmp 14), (15, .tmp 15)]) D.x60_0)
        (.sets [(0, (.loc 1))]))
      .ret))
theorem D.ok60 : digFn cfg.P cfg.inl D.h60 0 F.c60 = some D.s60 := by rw [cfgP, cfgIn]; kernel_rfl
theorem D.v60 {n : Nat} {v : AV} (h : finV cfg.P [.tmp 0] (sexec cfg (acall cfg n) D.s60 [] (.undef :: .undef :: pad 0) []) = some v) : vcall cfg (acall cfg n) 60 [] = some v := vcall_dig (acall_val cfg n) (cfgPrim _ _ (by decide)) F.fn60 F.ok60 rfl rfl rfl D.ok60 (by rw [env0S_pad (m := 2) (by simp) (by decide)]; exact h)
@[simp] theorem D.a60 (n : Nat) (ns : List Nat) (args : List AV) (H : Heap) : acall cfg (n + 1) ns 60 args H = callV cfg n 60 args H := acall_callV F.inl60
/- 61 (*augury/syns.reader).name -/
def D.h61 : Hint := { nt := 17, keep := [0, 2, 3, 5, 10], raws := [], cals := [], rs := [] }
noncomputable def D.s61 : S := 
  (.seq
    (.sets [(2, (.val (.str [])))])
    (.seq
      (.seq
        (.cal (some 5) (.val (.fn 30 [])) [(.loc 0), (.val (.int .i64 1))])
        (.seq
          (.eff (some 3) (.alloc 57) [])
          (.eff none (.store 57 (.tmp 0) (.tmp 1)) [(.loc 3), (.loc 5)])))
      (.seq
        (.cal (some 10) (.val (.fn 32 [])) [(.loc 0), (.call 31 [(.load 9 (.fa 57 (.loc 3) 1))])])
        (.seq
          (.cond (.load 4 (.fa 54 (.nck (.loc 0)) 1))
            (.seq
              (.sets [(2, (.val (.str [])))])
              .ret)
            .skip)
          (.seq
            (.sets [(2, (.load 9 (.fa 57 (.loc 3) 1)))])
            .ret)))))
theorem D.ok61 : digFn cfg.P cfg.inl D.h61 1 F.c61 = some D.s61 := by rw [cfgP, cfgIn]; kernel_rfl
theorem D.i61 {n : Nat} {ns : List Nat} {a0 : AV} {H H' : Heap} {v : AV} (h : finI cfg.P [.tmp 2] H.length (sexec cfg (acall cfg n) D.s61 (H.length :: ns) (a0 :: .undef :: .undef :: .undef :: .undef :: .undef :: .undef :: .undef :: .undef :: .undef :: .undef :: pad 6) H) = .ok v H') : acall cfg (n + 1) ns 61 [a0] H = .ok v H' := by
  rw [acall, F.inl61, if_pos rfl]; exact icall_dig (acall_val cfg n) F.fn61 F.ok61 rfl rfl rfl D.ok61 (by rw [env0S_pad (m := 11) (by simp) (by decide)]; exact h)
/- 62 (*augury/syns.reader).store -/
def D.h62 : Hint := { nt := 18, keep := [0, 2, 3, 4, 7, 8, 9, 10, 13, 15], raws := [], cals := [], rs := [] }
noncomputable def D.s62 : S := 
  (.seq
    (.eff (some 2) (.alloc 27) [])
    (.seq
      (.seq
        (.seq
          (.sets [(4, (.bld 27 [0] [(.val (.int .i64 3))]))])
          (.eff (some 3) (.alloc 27) []))
        (.eff none (.store 27 (.tmp 0) (.tmp 1)) [(.loc 3), (.loc 4)]))
      (.seq
        (.seq
          (.cal (some 7) (.val (.fn 81 [])) [(.loc 0)])
          (.seq
            (.seq
              (.sets [(10, (.fa 27 (.loc 3) 3)), (9, (.ext (.loc 7) 1)), (8, (.ext (.loc 7) 0))])
              (.eff none (.store 25 (.tmp 0) (.tmp 1)) [(.loc 10), (.loc 8)]))
            (.eff none (.store 25 (.tmp 0) (.tmp 1)) [(.fa 27 (.loc 3) 4), (.loc 9)])))
        (.seq
          (.cal (some 13) (.val (.fn 33 [])) [(.loc 0), (.val (.str [44]))])
          (.seq
            (.seq
              (.cal (some 15) (.val (.fn 82 [])) [(.loc 0)])
              (.eff none (.store 3 (.tmp 0) (.tmp 1)) [(.fa 27 (.loc 3) 2), (.loc 15)]))
            (.seq
              (.eff none (.store 27 (.tmp 0) (.tmp 1)) [(.loc 2), (.load 27 (.loc 3))])
              .ret))))))
theorem D.ok62 : digFn cfg.P cfg.inl D.h62 1 F.c62 = some D.s62 := by rw [cfgP, cfgIn]; kernel_rfl
theorem D.i62 {n : Nat} {ns : List Nat} {a0 : AV} {H H' : Heap} {v : AV} (h : finI cfg.P [.cell 2 27] H.length (sexec cfg (acall cfg n) D.s62 (H.length :: ns) (a0 :: .undef :: .undef :: .undef :: .undef :: .undef :: .undef :: .undef :: .undef :: .undef :: .undef :: .undef :: .undef :: .undef :: .undef :: .undef :: pad 2) H) = .ok v H') : acall cfg (n + 1) ns 62 [a0] H = .ok v H' := by
  rw [acall, F.inl62, if_pos rfl]; exact icall_dig (acall_val cfg n) F.fn62 F.ok62 rfl rfl rfl D.ok62 (by rw [env0S_pad (m := 16) (by simp) (by decide)]; exact h)
/- 63 (*augury/syns.reader).branch -/
def D.h63 : Hint := { nt := 30, keep := [0, 2, 3, 4, 5, 7, 16, 19, 20, 21, 22, 25, 27], raws := [], cals := [], rs := [] }
noncomputable def D.s63 : S := 
  (.seq
    (.eff (some 2) (.alloc 27) [])
    (.seq
      (.seq
        (.seq
          (.sets [(5, (.bld 27 [0] [(.val (.int .i64 5))]))])
          (.eff (some 3) (.alloc 27) []))
        (.eff none (.store 27 (.tmp 0) (.tmp 1)) [(.loc 3), (.loc 5)]))
      (.seq
        (.seq
          (.cal (some 7) (.val (.fn 30 [])) [(.loc 0), (.val (.int .i64 1))])
          (.seq
            (.eff (some 4) (.alloc 57) [])
            (.eff none (.store 57 (.tmp 0) (.tmp 1)) [(.loc 4), (.loc 7)])))
        (.seq
          (.eff none (.store 3 (.tmp 0) (.tmp 1)) [(.fa 27 (.loc 3) 1), (.call 58 [(.load 9 (.fa 57 (.loc 4) 1))])])
          (.seq
            (.cal (some 16) (.val (.fn 32 [])) [(.loc 0), (.bin .gtr 3 (.load 3 (.fa 27 (.loc 3) 1)) (.val (.int .i64 0)))])
            (.seq
              (.seq
                (.cal (some 19) (.val (.fn 83 [])) [(.loc 0)])
                (.seq
                  (.seq
                    (.sets [(22, (.fa 27 (.loc 3) 3)), (21, (.ext (.loc 19) 1)), (20, (.ext (.loc 19) 0))])
                    (.eff none (.store 25 (.tmp 0) (.tmp 1)) [(.loc 22), (.loc 20)]))
                  (.eff none (.store 25 (.tmp 0) (.tmp 1)) [(.fa 27 (.loc 3) 4), (.loc 21)])))
              (.seq
                (.cal (some 25) (.val (.fn 33 [])) [(.loc 0), (.val (.str [44]))])
                (.seq
                  (.seq
                    (.cal (some 27) (.val (.fn 61 [])) [(.loc 0)])
                    (.eff none (.store 9 (.tmp 0) (.tmp 1)) [(.fa 27 (.loc 3) 5), (.loc 27)]))
                  (.seq
                    (.eff none (.store 27 (.tmp 0) (.tmp 1)) [(.loc 2), (.load 27 (.loc 3))])
                    .ret)))))))))
theorem D.ok63 : digFn cfg.P cfg.inl D.h63 1 F.c63 = some D.s63 := by rw [cfgP, cfgIn]; kernel_rfl
theorem D.i63 {n : Nat} {ns : List Nat} {a0 : AV} {H H' : Heap} {v : AV} (h : finI cfg.P [.cell 2 27] H.length (sexec cfg (acall cfg n) D.s63 (H.length :: ns) (a0 :: .undef :: .undef :: .undef :: .undef :: .undef :: .undef :: .undef :: .undef :: .undef :: .undef :: .undef :: .undef :: .undef :: .undef :: .undef :: .undef :: .undef :: .undef :: .undef :: .undef :: .undef :: .undef :: .undef :: .undef :: .undef :: .undef :: .undef :: pad 2) H) = .ok v H') : acall cfg (n + 1) ns 63 [a0] H = .ok v H' := by
  rw [acall, F.inl63, if_pos rfl]; exact icall_dig (acall_val cfg n) F.fn63 F.ok63 rfl rfl rfl D.ok63 (by rw [env0S_pad (m := 28) (by simp) (by decide)]; exact h)
/- 64 (*augury/syns.reader).val -/
def D.h64 : Hint := { nt := 32, keep := [0, 2, 27, 30], raws := [], cals := [], rs := [] }
noncomputable def D.s64 : S := 
  (.seq
    (.eff (some 2) (.alloc 25) [])
    (.seq
      (.cond (.ite (.ite (.un .not (.load 4 (.fa 54 (.nck (.loc 0)) 1))) (.bin .gtr 3 (.len 49 (.load 49 (.fa 54 (.nck (.loc 0)) 0))) (.val (.int .i64 0))) (.val (.bool false))) (.bin .eql 3 (.load 3 (.fa 57 (.ia 49 (.load 49 (.fa 54 (.nck (.loc 0)) 0)) (.val (.int .i64 0))) 0)) (.val (.int .i64 2))) (.val (.bool false)))
        (.seq
          (.seq
            (.cal (some 27) (.val (.fn 35 [])) [(.loc 0)])
            (.eff none (.store 25 (.tmp 0) (.tmp 1)) [(.loc 2), (.bld 25 [1] [(.loc 27)])]))
          .ret)
        .skip)
      (.seq
        (.seq
          (.cal (some 30) (.val (.fn 82 [])) [(.loc 0)])
          (.eff none (.store 25 (.tmp 0) (.tmp 1)) [(.loc 2), (.bld 25 [0, 1] [(.val (.bool true)), (.loc 30)])]))
        .ret)))
theorem D.ok64 : digFn cfg.P cfg.inl D.h64 1 F.c64 = some D.s64 := by rw [cfgP, cfgIn]; kernel_rfl
theorem D.i64 {n : Nat} {ns : List Nat} {a0 : AV} {H H' : Heap} {v : AV} (h : finI cfg.P [.cell 2 25] H.length (sexec cfg (acall cfg n) D.s64 (H.length :: ns) (a0 :: .undef :: .undef :: .undef :: .undef :: .undef :: .undef :: .undef :: .undef :: .undef :: .undef :: .undef :: .undef :: .undef :: .undef :: .undef :: .undef :: .undef :: .undef :: .undef :: .undef :: .undef :: .undef :: .undef :: .undef :: .undef :: .undef :: .undef :: .undef :: .undef :: .undef :: pad 1) H) = .ok v H') : acall cfg (n + 1) ns 64 [a0] H = .ok v H' := by
  rw [acall, F.inl64, if_pos rfl]; exact icall_dig (acall_val cfg n) F.fn64 F.ok64 rfl rfl rfl D.ok64 (by rw [env0S_pad (m := 31) (by simp) (by decide)]; exact h)
/- 65 (*augury/syns.reader).moves -/
def D.h65 : Hint := { nt := 46, keep := [0, 1, 4, 5, 7, 8, 9, 10, 11, 14, 15, 16, 17, 22, 30, 31, 32, 33, 40, 41, 42, 43], raws := [], cals := [], rs := [] }
noncomputable def D.s65 : S := 
  (.seq
    (.eff (some 4) (.alloc 27) [])
    (.seq
      (.seq
        (.seq
          (.sets [(8, (.loc 0)), (7, (.call 58 [(.loc 1)]))])
          (.cal (some 9) (.val (.fn 84 [])) [(.loc 8)]))
        (.seq
          (.seq
            (.sets [(10, (.bld 27 [0, 1, 2] [(.val (.int .i64 1)), (.loc 7), (.loc 9)]))])
            (.eff (some 5) (.alloc 27) []))
          (.eff none (.store 27 (.tmp 0) (.tmp 1)) [(.loc 5), (.loc 10)])))
      (.seq
        (.seq
          (.sets [(11, (.loc 1))])
          (.block 0
            (.cond (.bin .eql 9 (.loc 11) (.val (.str [109, 111, 118])))
              (.seq
                (.cal (some 22) (.val (.fn 64 [])) [(.loc 0)])
                (.seq
                  (.eff none (.store 3 (.tmp 0) (.tmp 1)) [(.fa 27 (.loc 5) 1), (.val (.int .i64 4))])
                  (.eff none (.store 25 (.tmp 0) (.tmp 1)) [(.fa 27 (.loc 5) 3), (.loc 22)])))
              (.cond (.bin .eql 9 (.loc 11) (.val (.str [108, 111, 97, 100])))
                (.seq
                  (.eff none (.store 3 (.tmp 0) (.tmp 1)) [(.fa 27 (.loc 5) 0), (.val (.int .i64 2))])
                  (.seq
                    (.cal (some 30) (.val (.fn 81 [])) [(.loc 0)])
                    (.seq
                      (.seq
                        (.sets [(33, (.fa 27 (.loc 5) 3)), (32, (.ext (.loc 30) 1)), (31, (.ext (.loc 30) 0))])
                        (.eff none (.store 25 (.tmp 0) (.tmp 1)) [(.loc 33), (.loc 31)]))
                      (.eff none (.store 25 (.tmp 0) (.tmp 1)) [(.fa 27 (.loc 5) 4), (.loc 32)]))))
                (.cond (.bin .eql 9 (.loc 11) (.val (.str [99, 109, 111, 118])))
                  (.seq
                    (.eff none (.store 3 (.tmp 0) (.tmp 1)) [(.fa 27 (.loc 5) 0), (.val (.int .i64 4))])
                    (.seq
                      (.cal (some 40) (.val (.fn 83 [])) [(.loc 0)])
                      (.seq
                        (.seq
                          (.sets [(43, (.fa 27 (.loc 5) 3)), (42, (.ext (.loc 40) 1)), (41, (.ext (.loc 40) 0))])
                          (.eff none (.store 25 (.tmp 0) (.tmp 1)) [(.loc 43), (.loc 41)]))
                        (.eff none (.store 25 (.tmp 0) (.tmp 1)) [(.fa 27 (.loc 5) 4), (.loc 42)]))))
                  (.seq
                    (.cal (some 14) (.val (.fn 83 [])) [(.loc 0)])
                    (.seq
                      (.seq
                        (.sets [(17, (.fa 27 (.loc 5) 3)), (16, (.ext (.loc 14) 1)), (15, (.ext (.loc 14) 0))])
                        (.eff none (.store 25 (.tmp 0) (.tmp 1)) [(.loc 17), (.loc 15)]))
                      (.eff none (.store 25 (.tmp 0) (.tmp 1)) [(.fa 27 (.loc 5) 4), (.loc 16)]))))))))
        (.seq
          (.eff none (.store 27 (.tmp 0) (.tmp 1)) [(.loc 4), (.load 27 (.loc 5))])
          .ret))))
theorem D.ok65 : digFn cfg.P cfg.inl D.h65 2 F.c65 = some D.s65 := by rw [cfgP, cfgIn]; kernel_rfl
theorem D.i65 {n : Nat} {ns : List Nat} {a0 a1 : AV} {H H' : Heap} {v : AV} (h : finI cfg.P [.cell 4 27] H.length (sexec cfg (acall cfg n) D.s65 (H.length :: ns) (a0 :: a1 :: .undef :: .undef :: .undef :: .undef :: .undef :: .undef :: .undef :: .undef :: .undef :: .undef :: .undef :: .undef :: .undef :: .undef :: .undef :: .undef :: .undef :: .undef :: .undef :: .undef :: .undef :: .undef :: .undef :: .undef :: .undef :: .undef :: .undef :: .undef :: .undef :: .undef :: .undef :: .undef :: .undef :: .undef :: .undef :: .undef :: .undef :: .undef :: .undef :: .undef :: .undef :: .undef :: pad 2) H) = .ok v H') : acall cfg (n + 1) ns 65 [a0, a1] H = .ok v H' := by
  rw [acall, F.inl65, if_pos rfl]; exact icall_dig (acall_val cfg n) F.fn65 F.ok65 rfl rfl rfl D.ok65 (by rw [env0S_pad (m := 44) (by simp) (by decide)]; exact h)
/- 66 internal/strconv.Itoa -/
def D.h66 : Hint := { nt := 5, keep := [0, 2], raws := [], cals := [], rs := [] }
noncomputable def D.s66 : S := 
  (.seq
    (.sets [(2, (.val (.str [])))])
    (.seq
      (.sets [(2, (.call 85 [(.loc 0), (.val (.int .i64 10))]))])
      .ret))
theorem D.ok66 : digFn cfg.P cfg.inl D.h66 1 F.c66 = some D.s66 := by rw [cfgP, cfgIn]; kernel_rfl
theorem D.v66 {n : Nat} {a0 : AV} {v : AV} (h : finV cfg.P [.tmp 2] (sexec cfg (acall cfg n) D.s66 [] (a0 :: .undef :: .undef :: pad 2) []) = some v) : vcall cfg (acall cfg n) 66 [a0] = some v := vcall_dig (acall_val cfg n) (cfgPrim _ _ (by decide)) F.fn66 F.ok66 rfl rfl rfl D.ok66 (by rw [env0S_pad (m := 3) (by simp) (by decide)]; exact h)
@[simp] theorem D.a66 (n : Nat) (ns : List Nat) (args : List AV) (H : Heap) : acall cfg (n + 1) ns 66 args H = callV cfg n 66 args H := acall_callV F.inl66
/- 67 augury/syns.val -/
def D.h67 : Hint := { nt := 12, keep := [0, 1, 2], raws := [], cals := [], rs := [] }
noncomputable def D.s67 : S := 
  (.seq
    (.seq
      (.eff (some 1) (.box 25 (.tmp 0)) [(.loc 0)])
      (.sets [(2, (.val (.str [])))]))
    (.seq
      (.cond (.load 4 (.fa 25 (.loc 1) 0))
        (.seq
          (.sets [(2, (.bin .add 9 (.val (.str [114])) (.call 38 [(.load 3 (.fa 25 (.loc 1) 1))])))])
          .ret)
        .skip)
      (.seq
        (.sets [(2, (.call 38 [(.load 3 (.fa 25 (.loc 1) 1))]))])
        .ret)))
theorem D.ok67 : digFn cfg.P cfg.inl D.h67 1 F.c67 = some D.s67 := by rw [cfgP, cfgIn]; kernel_rfl
theorem D.v67 {n : Nat} {a0 : AV} {v : AV} (h : finV cfg.P [.tmp 2] (sexec cfg (acall cfg n) D.s67 [] (a0 :: .undef :: .undef :: pad 9) []) = some v) : vcall cfg (acall cfg n) 67 [a0] = some v := vcall_dig (acall_val cfg n) (cfgPrim _ _ (by decide)) F.fn67 F.ok67 rfl rfl rfl D.ok67 (by rw [env0S_pad (m := 3) (by simp) (by decide)]; exact h)
@[simp] theorem D.a67 (n : Nat) (ns : List Nat) (args : List AV) (H : Heap) : acall cfg (n + 1) ns 67 args H = callV cfg n 67 args H := acall_callV F.inl67
/- 68 augury/syns.word -/
def D.h68 : Hint := { nt := 15, keep := [0, 2], raws := [], cals := [], rs := [] }
noncomputable def D.s68 : S := 
  (.seq
    (.sets [(2, (.val (.str [])))])
    (.seq
      (.cond (.ite (.bin .lss 3 (.loc 0) (.val (.int .i64 0))) (.val (.bool true)) (.bin .geq 3 (.loc 0) (.len 34 (.call 80 []))))
        (.seq
          (.sets [(2, (.val (.str [])))])
          .ret)
        .skip)
      (.seq
        (.sets [(2, (.load 9 (.ia 34 (.call 80 []) (.loc 0))))])
        .ret)))
theorem D.ok68 : digFn cfg.P cfg.inl D.h68 1 F.c68 = some D.s68 := by rw [cfgP, cfgIn]; kernel_rfl
theorem D.v68 {n : Nat} {a0 : AV} {v : AV} (h : finV cfg.P [.tmp 2] (sexec cfg (acall cfg n) D.s68 [] (a0 :: .undef :: .undef :: pad 12) []) = some v) : vcall cfg (acall cfg n) 68 [a0] = some v := vcall_dig (acall_val cfg n) (cfgPrim _ _ (by decide)) F.fn68 F.ok68 rfl rfl rfl D.ok68 (by rw [env0S_pad (m := 3) (by simp) (by decide)]; exact h)
@[simp] theorem D.a68 (n : Nat) (ns : List Nat) (args : List AV) (H : Heap) : acall cfg (n + 1) ns 68 args H = callV cfg n 68 args H := acall_callV F.inl68
/- 69 augury/auguryref4.op -/
def D.h69 : Hint := { nt := 19, keep := [0, 2, 3, 4], raws := [], cals := [], rs := [[2]] }
noncomputable def D.b69_0 : S := 
  (.seq
    (.cond (.bin .lss 3 (.loc 4) (.len 34 (.loc 3)))
      .skip
      (.exit 0))
    (.seq
      (.block 1
        (.cond (.bin .eql 9 (.load 9 (.ia 34 (.loc 3) (.loc 4))) (.loc 0))
          (.seq
            (.sets [(2, (.loc 4))])
            .ret)
          .skip))
      (.sets [(4, (.bin .add 3 (.loc 4) (.val (.int .i64 1))))])))
theorem D.e69_0 {C : Cfg} {call : Callee'} {ns : List Nat} {L : Env} {H : Heap} : sexec C call D.b69_0 ns L H = sexec C call
  (.seq
    (.cond (.bin .lss 3 (.loc 4) (.len 34 (.loc 3)))
      .skip
      (.exit 0))
    (.seq
      (.block 1
        (.cond (.bin .eql 9 (.load 9 (.ia 34 (.loc 3) (.loc 4))) (.loc 0))
          (.seq
            (.sets [(2, (.loc 4))])
            .ret)
          .skip))
      (.sets [(4, (.bin .add 3 (.loc 4) (.val (.int .i64 1))))]))) ns L H := rfl
noncomputable def D.s69 : S := 
  (.seq
    (.sets [(2, (.val (.int .i64 0)))])
    (.seq
      (.sets [(3, (.call 86 []))])
      (.seq
        (.seq
          (.sets [(4, (.val (.int .i64 1)))])
          (.block 0
            (.loop [2] D.b69_0)))
        (.seq
          (.sets [(2, (.val (.int .i64 0)))])
          .ret))))
theorem D.ok69 : digFn cfg.P cfg.inl D.h69 1 F.c69 = some D.s69 := by rw [cfgP, cfgIn]; kernel_rfl
theorem D.v69 {n : Nat} {a0 : AV} {v : AV} (h : finV cfg.P [.tmp 2] (sexec cfg (acall cfg n) D.s69 [] (a0 :: .undef :: .undef :: .undef :: .undef :: pad 14) []) = some v) : vcall cfg (acall cfg n) 69 [a0] = some v := vcall_dig (acall_val cfg n) (cfgPrim _ _ (by decide)) F.fn69 F.ok69 rfl rfl rfl D.ok69 (by rw [env0S_pad (m := 5) (by simp) (by decide)]; exact h)
@[simp] theorem D.a69 (n : Nat) (ns : List Nat) (args : List AV) (H : Heap) : acall cfg (n + 1) ns 69 args H = callV cfg n 69 args H := acall_callV F.inl69
/- 70 (*augury/auguryref4.line).reg -/
def D.h70 : Hint := { nt := 22, keep := [0, 2, 3, 5, 18], raws := [], cals := [], rs := [] }
noncomputable def D.s70 : S := 
  (.seq
    (.sets [(2, (.val (.int .i64 0)))])
    (.seq
      (.seq
        (.cal (some 5) (.val (.fn 44 [])) [(.loc 0)])
        (.seq
          (.eff (some 3) (.alloc 57) [])
          (.eff none (.store 57 (.tmp 0) (.tmp 1)) [(.loc 3), (.loc 5)])))
      (.seq
        (.cond (.ite (.bin .neq 3 (.load 3 (.fa 57 (.loc 3) 0)) (.val (.int .i64 1))) (.val (.bool true)) (.bin .lss 3 (.call 45 [(.load 9 (.fa 57 (.loc 3) 1))]) (.val (.int .i64 0))))
          (.seq
            (.cal (some 18) (.val (.fn 26 [])) [(.loc 0), (.load 3 (.fa 57 (.loc 3) 3))])
            (.seq
              (.sets [(2, (.val (.int .i64 0)))])
              .ret))
          .skip)
        (.seq
          (.sets [(2, (.call 45 [(.load 9 (.fa 57 (.loc 3) 1))]))])
          .ret))))
theorem D.ok70 : digFn cfg.P cfg.inl D.h70 1 F.c70 = some D.s70 := by rw [cfgP, cfgIn]; kernel_rfl
theorem D.i70 {n : Nat} {ns : List Nat} {a0 : AV} {H H' : Heap} {v : AV} (h : finI cfg.P [.tmp 2] H.length (sexec cfg (acall cfg n) D.s70 (H.length :: ns) (a0 :: .undef :: .undef :: .undef :: .undef :: .undef :: .undef :: .undef :: .undef :: .undef :: .undef :: .undef :: .undef :: .undef :: .undef :: .undef :: .undef :: .undef :: .undef :: pad 3) H) = .ok v H') : acall cfg (n + 1) ns 70 [a0] H = .ok v H' := by
  rw [acall, F.inl70, if_pos rfl]; exact icall_dig (acall_val cfg n) F.fn70 F.ok70 rfl rfl rfl D.ok70 (by rw [env0S_pad (m := 19) (by simp) (by decide)]; exact h)
/- 71 (*augury/auguryref4.line).val -/
def D.h71 : Hint := { nt := 32, keep := [0, 2, 3, 5, 30], raws := [], cals := [], rs := [] }
noncomputable def D.s71 : S := 
  (.seq
    (.eff (some 2) (.alloc 25) [])
    (.seq
      (.seq
        (.cal (some 5) (.val (.fn 44 [])) [(.loc 0)])
        (.seq
          (.eff (some 3) (.alloc 57) [])
          (.eff none (.store 57 (.tmp 0) (.tmp 1)) [(.loc 3), (.loc 5)])))
      (.seq
        (.block 0
          (.cond (.bin .eql 3 (.load 3 (.fa 57 (.loc 3) 0)) (.val (.int .i64 2)))
            (.seq
              (.eff none (.store 25 (.tmp 0) (.tmp 1)) [(.loc 2), (.bld 25 [1] [(.load 3 (.fa 57 (.loc 3) 2))])])
              .ret)
            (.cond (.ite (.bin .eql 3 (.load 3 (.fa 57 (.loc 3) 0)) (.val (.int .i64 1))) (.bin .geq 3 (.call 45 [(.load 9 (.fa 57 (.loc 3) 1))]) (.val (.int .i64 0))) (.val (.bool false)))
              (.seq
                (.eff none (.store 25 (.tmp 0) (.tmp 1)) [(.loc 2), (.bld 25 [0, 1] [(.val (.bool true)), (.call 45 [(.load 9 (.fa 57 (.loc 3) 1))])])])
                .ret)
              .skip)))
        (.seq
          (.cal (some 30) (.val (.fn 26 [])) [(.loc 0), (.load 3 (.fa 57 (.loc 3) 3))])
          (.seq
            (.eff none (.store 25 (.tmp 0) (.tmp 1)) [(.loc 2), (.bld 25 [] [])])
            .ret)))))
theorem D.ok71 : digFn cfg.P cfg.inl D.h71 1 F.c71 = some D.s71 := by rw [cfgP, cfgIn]; kernel_rfl
theorem D.i71 {n : Nat} {ns : List Nat} {a0 : AV} {H H' : Heap} {v : AV} (h : finI cfg.P [.cell 2 25] H.length (sexec cfg (acall cfg n) D.s71 (H.length :: ns) (a0 :: .undef :: .undef :: .undef :: .undef :: .undef :: .undef :: .undef :: .undef :: .undef :: .undef :: .undef :: .undef :: .undef :: .undef :: .undef :: .undef :: .undef :: .undef :: .undef :: .undef :: .undef :: .undef :: .undef :: .undef :: .undef :: .undef :: .undef :: .undef :: .undef :: .undef :: pad 1) H) = .ok v H') : acall cfg (n + 1) ns 71 [a0] H = .ok v H' := by
  rw [acall, F.inl71, if_pos rfl]; exact icall_dig (acall_val cfg n) F.fn71 F.ok71 rfl rfl rfl D.ok71 (by rw [env0S_pad (m := 31) (by simp) (by decide)]; exact h)
/- 72 (*augury/auguryref4.line).address -/
def D.h72 : Hint := { nt := 20, keep := [0, 1, 5, 6, 7, 8, 12, 13, 14, 15, 19], raws := [], cals := [], rs := [] }
noncomputable def D.s72 : S := 
  (.seq
    (.cal (some 5) (.val (.fn 50 [])) [(.loc 0), (.val (.str [91]))])
    (.seq
      (.seq
        (.seq
          (.sets [(7, (.loc 0)), (6, (.loc 1))])
          (.cal (some 8) (.val (.fn 71 [])) [(.loc 7)]))
        (.eff none (.store 25 (.tmp 0) (.tmp 1)) [(.fa 27 (.nck (.loc 6)) 3), (.loc 8)]))
      (.seq
        (.cal (some 12) (.val (.fn 50 [])) [(.loc 0), (.val (.str [43]))])
        (.seq
          (.seq
            (.seq
              (.sets [(14, (.loc 0)), (13, (.loc 1))])
              (.cal (some 15) (.val (.fn 71 [])) [(.loc 14)]))
            (.eff none (.store 25 (.tmp 0) (.tmp 1)) [(.fa 27 (.nck (.loc 13)) 4), (.loc 15)]))
          (.cal (some 19) (.val (.fn 50 [])) [(.loc 0), (.val (.str [93]))])))))
theorem D.ok72 : digFn cfg.P cfg.inl D.h72 2 F.c72 = some D.s72 := by rw [cfgP, cfgIn]; kernel_rfl
theorem D.i72 {n : Nat} {ns : List Nat} {a0 a1 : AV} {H H' : Heap} {v : AV} (h : finI cfg.P [] H.length (sexec cfg (acall cfg n) D.s72 (H.length :: ns) (a0 :: a1 :: .undef :: .undef :: .undef :: .undef :: .undef :: .undef :: .undef :: .undef :: .undef :: .undef :: .undef :: .undef :: .undef :: .undef :: .undef :: .undef :: .undef :: .undef :: pad 0) H) = .ok v H') : acall cfg (n + 1) ns 72 [a0, a1] H = .ok v H' := by
  rw [acall, F.inl72, if_pos rfl]; exact icall_dig (acall_val cfg n) F.fn72 F.ok72 rfl rfl rfl D.ok72 (by rw [env0S_pad (m := 20) (by simp) (by decide)]; exact h)
/- 73 (*augury/auguryref4.line).name -/
def D.h73 : Hint := { nt := 20, keep := [0, 2, 3, 5, 17], raws := [], cals := [], rs := [] }
noncomputable def D.s73 : S := 
  (.seq
    (.sets [(2, (.val (.str [])))])
    (.seq
      (.seq
        (.cal (some 5) (.val (.fn 44 [])) [(.loc 0)])
        (.seq
          (.eff (some 3) (.alloc 57) [])
          (.eff none (.store 57 (.tmp 0) (.tmp 1)) [(.loc 3), (.loc 5)])))
      (.seq
        (.cond (.ite (.bin .neq 3 (.load 3 (.fa 57 (.loc 3) 0)) (.val (.int .i64 1))) (.val (.bool true)) (.call 48 [(.load 9 (.fa 57 (.loc 3) 1))]))
          (.cal (some 17) (.val (.fn 26 [])) [(.loc 0), (.load 3 (.fa 57 (.loc 3) 3))])
          .skip)
        (.seq
          (.sets [(2, (.load 9 (.fa 57 (.loc 3) 1)))])
          .ret))))
theorem D.ok73 : digFn cfg.P cfg.inl D.h73 1 F.c73 = some D.s73 := by rw [cfgP, cfgIn]; kernel_rfl
theorem D.i73 {n : Nat} {ns : List Nat} {a0 : AV} {H H' : Heap} {v : AV} (h : finI cfg.P [.tmp 2] H.length (sexec cfg (acall cfg n) D.s73 (H.length :: ns) (a0 :: .undef :: .undef :: .undef :: .undef :: .undef :: .undef :: .undef :: .undef :: .undef :: .undef :: .undef :: .undef :: .undef :: .undef :: .undef :: .undef :: .undef :: pad 2) H) = .ok v H') : acall cfg (n + 1) ns 73 [a0] H = .ok v H' := by
  rw [acall, F.inl73, if_pos rfl]; exact icall_dig (acall_val cfg n) F.fn73 F.ok73 rfl rfl rfl D.ok73 (by rw [env0S_pad (m := 18) (by simp) (by decide)]; exact h)
/- 74 augury/auguryref4.val -/
def D.h74 : Hint := { nt := 12, keep := [0, 1, 2], raws := [], cals := [], rs := [] }
noncomputable def D.s74 : S := 
  (.seq
    (.seq
      (.eff (some 1) (.box 25 (.tmp 0)) [(.loc 0)])
      (.sets [(2, (.val (.str [])))]))
    (.seq
      (.cond (.load 4 (.fa 25 (.loc 1) 0))
        (.seq
          (.sets [(2, (.bin .add 9 (.val (.str [114])) (.call 51 [(.load 3 (.fa 25 (.loc 1) 1))])))])
          .ret)
        .skip)
      (.seq
        (.sets [(2, (.call 51 [(.load 3 (.fa 25 (.loc 1) 1))]))])
        .ret)))
theorem D.ok74 : digFn cfg.P cfg.inl D.h74 1 F.c74 = some D.s74 := by rw [cfgP, cfgIn]; kernel_rfl
theorem D.v74 {n : Nat} {a0 : AV} {v : AV} (h : finV cfg.P [.tmp 2] (sexec cfg (acall cfg n) D.s74 [] (a0 :: .undef :: .undef :: pad 9) []) = some v) : vcall cfg (acall cfg n) 74 [a0] = some v := vcall_dig (acall_val cfg n) (cfgPrim _ _ (by decide)) F.fn74 F.ok74 rfl rfl rfl D.ok74 (by rw [env0S_pad (m := 3) (by simp) (by decide)]; exact h)
@[simp] theorem D.a74 (n : Nat) (ns : List Nat) (args : List AV) (H : Heap) : acall cfg (n + 1) ns 74 args H = callV cfg n 74 args H := acall_callV F.inl74
/- 75 augury/auguryref4.opName -/
def D.h75 : Hint := { nt := 13, keep := [0, 2], raws := [], cals := [], rs := [] }
noncomputable def D.s75 : S := 
  (.seq
    (.sets [(2, (.val (.str [])))])
    (.seq
      (.cond (.ite (.bin .lss 3 (.loc 0) (.val (.int .i64 1))) (.val (.bool true)) (.bin .gtr 3 (.loc 0) (.val (.int .i64 10))))
        (.seq
          (.sets [(2, (.val (.str [63])))])
          .ret)
        .skip)
      (.seq
        (.sets [(2, (.load 9 (.ia 34 (.call 86 []) (.loc 0))))])
        .ret)))
theorem D.ok75 : digFn cfg.P cfg.inl D.h75 1 F.c75 = some D.s75 := by rw [cfgP, cfgIn]; kernel_rfl
theorem D.v75 {n : Nat} {a0 : AV} {v : AV} (h : finV cfg.P [.tmp 2] (sexec cfg (acall cfg n) D.s75 [] (a0 :: .undef :: .undef :: pad 10) []) = some v) : vcall cfg (acall cfg n) 75 [a0] = some v := vcall_dig (acall_val cfg n) (cfgPrim _ _ (by decide)) F.fn75 F.ok75 rfl rfl rfl D.ok75 (by rw [env0S_pad (m := 3) (by simp) (by decide)]; exact h)
@[simp] theorem D.a75 (n : Nat) (ns : List Nat) (args : List AV) (H : Heap) : acall cfg (n + 1) ns 75 args H = callV cfg n 75 args H := acall_callV F.inl75
/- 76 slices.IndexFunc[[]rune,rune] -/
def D.h76 : Hint := { nt := 19, keep := [0, 1, 4, 5, 7, 8, 16], raws := [], cals := [], rs := [[4, 5, 16]] }
noncomputable def D.b76_0 : S := 
  (.seq
    (.cond (.bin .lss 3 (.loc 8) (.loc 7))
      .skip
      (.exit 0))
    (.seq
      (.block 1
        (.seq
          (.sets [(5, (.loc 8))])
          (.seq
            (.cal (some 16) (.loc 1) [(.load 21 (.ia 58 (.loc 0) (.loc 5)))])
            (.cond (.loc 16)
              (.seq
                (.sets [(4, (.loc 5))])
                .ret)
              .skip))))
      (.sets [(8, (.bin .add 3 (.loc 8) (.val (.int .i64 1))))])))
theorem D.e76_0 {C : Cfg} {call : Callee'} {ns : List Nat} {L : Env} {H : Heap} : sexec C call D.b76_0 ns L H = sexec C call
  (.seq
    (.cond (.bin .lss 3 (.loc 8) (.loc 7))
      .skip
      (.exit 0))
    (.seq
      (.block 1
        (.seq
          (.sets [(5, (.loc 8))])
          (.seq
            (.cal (some 16) (.loc 1) [(.load 21 (.ia 58 (.loc 0) (.loc 5)))])
            (.cond (.loc 16)
              (.seq
                (.sets [(4, (.loc 5))])
                .ret)
              .skip))))
      (.sets [(8, (.bin .add 3 (.loc 8) (.val (.int .i64 1))))]))) ns L H := rfl
noncomputable def D.s76 : S := 
  (.seq
    (.sets [(4, (.val (.int .i64 0)))])
    (.seq
      (.seq
        (.sets [(8, (.val (.int .i64 0))), (7, (.len 58 (.loc 0)))])
        (.block 0
          (.loop [4, 5, 16] D.b76_0)))
      (.seq
        (.sets [(4, (.val (.int .i64 (-1))))])
        .ret)))
theorem D.ok76 : digFn cfg.P cfg.inl D.h76 2 F.c76 = some D.s76 := by rw [cfgP, cfgIn]; kernel_rfl
theorem D.i76 {n : Nat} {ns : List Nat} {a0 a1 : AV} {H H' : Heap} {v : AV} (h : finI cfg.P [.tmp 4] H.length (sexec cfg (acall cfg n) D.s76 (H.length :: ns) (a0 :: a1 :: .undef :: .undef :: .undef :: .undef :: .undef :: .undef :: .undef :: .undef :: .undef :: .undef :: .undef :: .undef :: .undef :: .undef :: .undef :: pad 2) H) = .ok v H') : acall cfg (n + 1) ns 76 [a0, a1] H = .ok v H' := by
  rw [acall, F.inl76, if_pos rfl]; exact icall_dig (acall_val cfg n) F.fn76 F.ok76 rfl rfl rfl D.ok76 (by rw [env0S_pad (m := 17) (by simp) (by decide)]; exact h)
/- 77 augury/lexr.name$1 -/
def D.h77 : Hint := { nt := 11, keep := [0, 2], raws := [], cals := [], rs := [] }
noncomputable def D.s77 : S := 
  (.seq
    (.sets [(2, (.val (.bool false)))])
    (.seq
      (.sets [(2, (.ite (.un .not (.call 53 [(.loc 0)])) (.un .not (.call 55 [(.loc 0)])) (.val (.bool false))))])
      .ret))
theorem D.ok77 : digFn cfg.P cfg.inl D.h77 1 F.c77 = some D.s77 := by rw [cfgP, cfgIn]; kernel_rfl
theorem D.v77 {n : Nat} {a0 : AV} {v : AV} (h : finV cfg.P [.tmp 2] (sexec cfg (acall cfg n) D.s77 [] (a0 :: .undef :: .undef :: pad 8) []) = some v) : vcall cfg (acall cfg n) 77 [a0] = some v := vcall_dig (acall_val cfg n) (cfgPrim _ _ (by decide)) F.fn77 F.ok77 rfl rfl rfl D.ok77 (by rw [env0S_pad (m := 3) (by simp) (by decide)]; exact h)
@[simp] theorem D.a77 (n : Nat) (ns : List Nat) (args : List AV) (H : Heap) : acall cfg (n + 1) ns 77 args H = callV cfg n 77 args H := acall_callV F.inl77
/- 78 strings.Index -/
def D.h78 : Hint := { nt := 8, keep := [0, 1, 4], raws := [], cals := [], rs := [] }
noncomputable def D.s78 : S := 
  (.seq
    (.sets [(4, (.val (.int .i64 0)))])
    (.seq
      (.sets [(4, (.call 87 [(.loc 0), (.loc 1)]))])
      .ret))
theorem D.ok78 : digFn cfg.P cfg.inl D.h78 2 F.c78 = some D.s78 := by rw [cfgP, cfgIn]; kernel_rfl
theorem D.v78 {n : Nat} {a0 a1 : AV} {v : AV} (h : finV cfg.P [.tmp 4] (sexec cfg (acall cfg n) D.s78 [] (a0 :: a1 :: .undef :: .undef :: .undef :: pad 3) []) = some v) : vcall cfg (acall cfg n) 78 [a0, a1] = some v := vcall_dig (acall_val cfg n) (cfgPrim _ _ (by decide)) F.fn78 F.ok78 rfl rfl rfl D.ok78 (by rw [env0S_pad (m := 5) (by simp) (by decide)]; exact h)
@[simp] theorem D.a78 (n : Nat) (ns : List Nat) (args : List AV) (H : Heap) : acall cfg (n + 1) ns 78 args H = callV cfg n 78 args H := acall_callV F.inl78
/- 79 slices.Index[[]string,string] -/
def D.h79 : Hint := { nt := 19, keep := [0, 1, 4, 5, 7, 8], raws := [], cals := [], rs := [[4, 5]] }
noncomputable def D.b79_0 : S := 
  (.seq
    (.cond (.bin .lss 3 (.loc 8) (.loc 7))
      .skip
      (.exit 0))
    (.seq
      (.block 1
        (.seq
          (.sets [(5, (.loc 8))])
          (.cond (.bin .eql 9 (.loc 1) (.load 9 (.ia 34 (.loc 0) (.loc 5))))
            (.seq
              (.sets [(4, (.loc 5))])
              .ret)
            .skip)))
      (.sets [(8, (.bin .add 3 (.loc 8) (.val (.int .i64 1))))])))
theorem D.e79_0 {C : Cfg} {call : Callee'} {ns : List Nat} {L : Env} {H : Heap} : sexec C call D.b79_0 ns L H = sexec C call
  (.seq
    (.cond (.bin .lss 3 (.loc 8) (.loc 7))
      .skip
      (.exit 0))
    (.seq
      (.block 1
        (.seq
          (.sets [(5, (.loc 8))])
          (.cond (.bin .eql 9 (.loc 1) (.load 9 (.ia 34 (.loc 0) (.loc 5))))
            (.seq
              (.sets [(4, (.loc 5))])
              .ret)
            .skip)))
      (.sets [(8, (.bin .add 3 (.loc 8) (.val (.int .i64 1))))]))) ns L H := rfl
noncomputable def D.s79 : S := 
  (.seq
    (.sets [(4, (.val (.int .i64 0)))])
    (.seq
      (.seq
        (.sets [(8, (.val (.int .i64 0))), (7, (.len 34 (.loc 0)))])
        (.block 0
          (.loop [4, 5] D.b79_0)))
      (.seq
        (.sets [(4, (.val (.int .i64 (-1))))])
        .ret)))
theorem D.ok79 : digFn cfg.P cfg.inl D.h79 2 F.c79 = some D.s79 := by rw [cfgP, cfgIn]; kernel_rfl
theorem D.v79 {n : Nat} {a0 a1 : AV} {v : AV} (h : finV cfg.P [.tmp 4] (sexec cfg (acall cfg n) D.s79 [] (a0 :: a1 :: .undef :: .undef :: .undef :: .undef :: .undef :: .undef :: .undef :: pad 10) []) = some v) : vcall cfg (acall cfg n) 79 [a0, a1] = some v := vcall_dig (acall_val cfg n) (cfgPrim _ _ (by decide)) F.fn79 F.ok79 rfl rfl rfl D.ok79 (by rw [env0S_pad (m := 9) (by simp) (by decide)]; exact h)
@[simp] theorem D.a79 (n : Nat) (ns : List Nat) (args : List AV) (H : Heap) : acall cfg (n + 1) ns 79 args H = callV cfg n 79 args H := acall_callV F.inl79
/- 80 augury/syns.ops -/
def D.h80 : Hint := { nt := 2, keep := [0, 1], raws := [], cals := [], rs := [] }
noncomputable def D.x80_0 : List X := [(.val (.str [])), (.val (.str [97, 100, 100])), (.val (.str [115, 117, 98])), (.val (.str [97, 110, 100])), (.val (.str [111, 114])), (.val (.str [120, 111, 114])), (.val (.str [115, 104, 108])), (.val (.str [115, 104, 114])), (.val (.str [109, 117, 108])), (.val (.str [108, 116])), (.val (.str [101, 113]))]
noncomputable def D.s80 : S := 
  (.seq
    (.eff (some 0) (.move (.const (.slice none 0 0))) [])
    (.seq
      (.seq
        (.eff (some 1) (.buildSlice 34 11 #[(0, .tmp 0), (1, .tmp 1), (2, .tmp 2), (3, .tmp 3), (4, .tmp 4), (5, .tmp 5), (6, .tmp 6), (7, .tmp 7), (8, .tmp 8), (9, .tmp 9), (10, .tmp 10)]) D.x80_0)
        (.sets [(0, (.loc 1))]))
      .ret))
theorem D.ok80 : digFn cfg.P cfg.inl D.h80 0 F.c80 = some D.s80 := by rw [cfgP, cfgIn]; kernel_rfl
theorem D.v80 {n : Nat} {v : AV} (h : finV cfg.P [.tmp 0] (sexec cfg (acall cfg n) D.s80 [] (.undef :: .undef :: pad 0) []) = some v) : vcall cfg (acall cfg n) 80 [] = some v := vcall_dig (acall_val cfg n) (cfgPrim _ _ (by decide)) F.fn80 F.ok80 rfl rfl rfl D.ok80 (by rw [env0S_pad (m := 2) (by simp) (by decide)]; exact h)
@[simp] theorem D.a80 (n : Nat) (ns : List Nat) (args : List AV) (H : Heap) : acall cfg (n + 1) ns 80 args H = callV cfg n 80 args H := acall_callV F.inl80
/- 81 (*augury/syns.reader).address -/
def D.h81 : Hint := { nt := 16, keep := [0, 2, 3, 5, 7, 9, 11, 13, 14, 15], raws := [6], cals := [], rs := [] }
noncomputable def D.s81 : S := 
  (.seq
    (.seq
      (.eff (some 2) (.alloc 25) [])
      (.eff (some 3) (.alloc 25) []))
    (.seq
      (.cal (some 5) (.val (.fn 33 [])) [(.loc 0), (.val (.str [91]))])
      (.seq
        (.seq
          (.cal (some 7) (.val (.fn 64 [])) [(.loc 0)])
          (.eff none (.store 25 (.tmp 0) (.tmp 1)) [(.loc 2), (.loc 7)]))
        (.seq
          (.cal (some 9) (.val (.fn 33 [])) [(.loc 0), (.val (.str [43]))])
          (.seq
            (.seq
              (.cal (some 11) (.val (.fn 64 [])) [(.loc 0)])
              (.eff none (.store 25 (.tmp 0) (.tmp 1)) [(.loc 3), (.loc 11)]))
            (.seq
              (.cal (some 13) (.val (.fn 33 [])) [(.loc 0), (.val (.str [93]))])
              (.seq
                (.raw (regOps F.c81 6) true)
                .ret)))))))
theorem D.ok81 : digFn cfg.P cfg.inl D.h81 1 F.c81 = some D.s81 := by rw [cfgP, cfgIn]; kernel_rfl
theorem D.i81 {n : Nat} {ns : List Nat} {a0 : AV} {H H' : Heap} {v : AV} (h : finI cfg.P [.cell 2 25, .cell 3 25] H.length (sexec cfg (acall cfg n) D.s81 (H.length :: ns) (a0 :: .undef :: .undef :: .undef :: .undef :: .undef :: .undef :: .undef :: .undef :: .undef :: .undef :: .undef :: .undef :: .undef :: .undef :: .undef :: pad 0) H) = .ok v H') : acall cfg (n + 1) ns 81 [a0] H = .ok v H' := by
  rw [acall, F.inl81, if_pos rfl]; exact icall_dig (acall_val cfg n) F.fn81 F.ok81 rfl rfl rfl D.ok81 (by rw [env0S_pad (m := 16) (by simp) (by decide)]; exact h)
/- 82 (*augury/syns.reader).reg -/
def D.h82 : Hint := { nt := 18, keep := [0, 2, 3, 4, 5, 7, 16], raws := [], cals := [], rs := [] }
noncomputable def D.s82 : S := 
  (.seq
    (.sets [(2, (.val (.int .i64 0)))])
    (.seq
      (.seq
        (.cal (some 7) (.val (.fn 30 [])) [(.loc 0), (.val (.int .i64 1))])
        (.seq
          (.eff (some 3) (.alloc 57) [])
          (.eff none (.store 57 (.tmp 0) (.tmp 1)) [(.loc 3), (.loc 7)])))
      (.seq
        (.sets [(5, (.ext (.call 34 [(.load 9 (.fa 57 (.loc 3) 1))]) 1)), (4, (.ext (.call 34 [(.load 9 (.fa 57 (.loc 3) 1))]) 0))])
        (.seq
          (.cal (some 16) (.val (.fn 32 [])) [(.loc 0), (.loc 5)])
          (.seq
            (.sets [(2, (.loc 4))])
            .ret)))))
theorem D.ok82 : digFn cfg.P cfg.inl D.h82 1 F.c82 = some D.s82 := by rw [cfgP, cfgIn]; kernel_rfl
theorem D.i82 {n : Nat} {ns : List Nat} {a0 : AV} {H H' : Heap} {v : AV} (h : finI cfg.P [.tmp 2] H.length (sexec cfg (acall cfg n) D.s82 (H.length :: ns) (a0 :: .undef :: .undef :: .undef :: .undef :: .undef :: .undef :: .undef :: .undef :: .undef :: .undef :: .undef :: .undef :: .undef :: .undef :: .undef :: .undef :: pad 1) H) = .ok v H') : acall cfg (n + 1) ns 82 [a0] H = .ok v H' := by
  rw [acall, F.inl82, if_pos rfl]; exact icall_dig (acall_val cfg n) F.fn82 F.ok82 rfl rfl rfl D.ok82 (by rw [env0S_pad (m := 17) (by simp) (by decide)]; exact h)
/- 83 (*augury/syns.reader).two -/
def D.h83 : Hint := { nt := 11, keep := [0, 2, 3, 5, 7, 8, 9, 10], raws := [3], cals := [], rs := [] }
noncomputable def D.s83 : S := 
  (.seq
    (.seq
      (.eff (some 2) (.alloc 25) [])
      (.eff (some 3) (.alloc 25) []))
    (.seq
      (.seq
        (.cal (some 5) (.val (.fn 64 [])) [(.loc 0)])
        (.eff none (.store 25 (.tmp 0) (.tmp 1)) [(.loc 2), (.loc 5)]))
      (.seq
        (.cal (some 7) (.val (.fn 33 [])) [(.loc 0), (.val (.str [44]))])
        (.seq
          (.raw (regOps F.c83 3) true)
          .ret))))
theorem D.ok83 : digFn cfg.P cfg.inl D.h83 1 F.c83 = some D.s83 := by rw [cfgP, cfgIn]; kernel_rfl
theorem D.i83 {n : Nat} {ns : List Nat} {a0 : AV} {H H' : Heap} {v : AV} (h : finI cfg.P [.cell 2 25, .cell 3 25] H.length (sexec cfg (acall cfg n) D.s83 (H.length :: ns) (a0 :: .undef :: .undef :: .undef :: .undef :: .undef :: .undef :: .undef :: .undef :: .undef :: .undef :: pad 0) H) = .ok v H') : acall cfg (n + 1) ns 83 [a0] H = .ok v H' := by
  rw [acall, F.inl83, if_pos rfl]; exact icall_dig (acall_val cfg n) F.fn83 F.ok83 rfl rfl rfl D.ok83 (by rw [env0S_pad (m := 11) (by simp) (by decide)]; exact h)
/- 84 (*augury/syns.reader).dest -/
def D.h84 : Hint := { nt := 9, keep := [0, 2, 3, 5, 7], raws := [], cals := [], rs := [] }
noncomputable def D.s84 : S := 
  (.seq
    (.sets [(2, (.val (.int .i64 0)))])
    (.seq
      (.seq
        (.cal (some 5) (.val (.fn 82 [])) [(.loc 0)])
        (.sets [(3, (.loc 5))]))
      (.seq
        (.cal (some 7) (.val (.fn 33 [])) [(.loc 0), (.val (.str [44]))])
        (.seq
          (.sets [(2, (.loc 3))])
          .ret))))
theorem D.ok84 : digFn cfg.P cfg.inl D.h84 1 F.c84 = some D.s84 := by rw [cfgP, cfgIn]; kernel_rfl
theorem D.i84 {n : Nat} {ns : List Nat} {a0 : AV} {H H' : Heap} {v : AV} (h : finI cfg.P [.tmp 2] H.length (sexec cfg (acall cfg n) D.s84 (H.length :: ns) (a0 :: .undef :: .undef :: .undef :: .undef :: .undef :: .undef :: .undef :: pad 1) H) = .ok v H') : acall cfg (n + 1) ns 84 [a0] H = .ok v H' := by
  rw [acall, F.inl84, if_pos rfl]; exact icall_dig (acall_val cfg n) F.fn84 F.ok84 rfl rfl rfl D.ok84 (by rw [env0S_pad (m := 8) (by simp) (by decide)]; exact h)
/- 85 internal/strconv.FormatInt -/
def D.h85 : Hint := { nt := 54, keep := [0, 1, 4, 5, 6, 7, 9, 30, 38, 42], raws := [], cals := [], rs := [] }
noncomputable def D.s85 : S := 
  (.seq
    (.sets [(4, (.val (.str [])))])
    (.seq
      (.cond (.bin .eql 3 (.loc 1) (.val (.int .i64 10)))
        (.seq
          (.cond (.ite (.bin .leq 2 (.val (.int .i64 0)) (.loc 0)) (.bin .lss 2 (.loc 0) (.val (.int .i64 100))) (.val (.bool false)))
            (.seq
              (.sets [(4, (.call 88 [(.loc 0)]))])
              .ret)
            .skip)
          (.seq
            (.eff (some 5) (.alloc 105) [])
            (.seq
              (.sets [(6, (.conv 2 106 (.loc 0)))])
              (.seq
                (.cond (.bin .lss 2 (.loc 0) (.val (.int .i64 0)))
                  (.sets [(6, (.un .neg (.loc 6)))])
                  .skip)
                (.seq
                  (.sets [(7, (.call 89 [(.loc 6)]))])
                  (.seq
                    (.eff (some 30) (.slice 105 (.tmp 0) (some (.tmp 1)) (some (.tmp 2)) none) [(.loc 5), (.val (.int .i64 1)), (.bin .add 3 (.val (.int .i64 1)) (.loc 7))])
                    (.seq
                      (.seq
                        (.seq
                          (.chk (.call 90 [(.loc 30), (.loc 6)]))
                          .skip)
                        (.cond (.bin .lss 2 (.loc 0) (.val (.int .i64 0)))
                          (.seq
                            (.eff none (.store 5 (.tmp 0) (.tmp 1)) [(.ia 105 (.loc 5) (.val (.int .i64 0))), (.val (.int .u8 45))])
                            (.seq
                              (.seq
                                (.eff (some 38) (.slice 105 (.tmp 0) none (some (.tmp 1)) none) [(.loc 5), (.bin .add 3 (.val (.int .i64 1)) (.loc 7))])
                                (.sets [(4, (.conv 44 9 (.loc 38)))]))
                              .ret))
                          .skip))
                      (.seq
                        (.seq
                          (.eff (some 42) (.slice 105 (.tmp 0) (some (.tmp 1)) (some (.tmp 2)) none) [(.loc 5), (.val (.int .i64 1)), (.bin .add 3 (.val (.int .i64 1)) (.loc 7))])
                          (.sets [(4, (.conv 44 9 (.loc 42)))]))
                        .ret))))))))
        .skip)
      (.seq
        (.seq
          (.seq
            (.chk (.ext (.call 91 [(.val (.nils)), (.conv 2 106 (.loc 0)), (.loc 1), (.bin .lss 2 (.loc 0) (.val (.int .i64 0))), (.val (.bool false))]) 0))
            .skip)
          (.sets [(9, (.ext (.call 91 [(.val (.nils)), (.conv 2 106 (.loc 0)), (.loc 1), (.bin .lss 2 (.loc 0) (.val (.int .i64 0))), (.val (.bool false))]) 1))]))
        (.seq
          (.sets [(4, (.loc 9))])
          .ret))))
theorem D.ok85 : digFn cfg.P cfg.inl D.h85 2 F.c85 = some D.s85 := by rw [cfgP, cfgIn]; kernel_rfl
theorem D.v85 {n : Nat} {a0 a1 : AV} {v : AV} (h : finV cfg.P [.tmp 4] (sexec cfg (acall cfg n) D.s85 [] (a0 :: a1 :: .undef :: .undef :: .undef :: .undef :: .undef :: .undef :: .undef :: .undef :: .undef :: .undef :: .undef :: .undef :: .undef :: .undef :: .undef :: .undef :: .undef :: .undef :: .undef :: .undef :: .undef :: .undef :: .undef :: .undef :: .undef :: .undef :: .undef :: .undef :: .undef :: .undef :: .undef :: .undef :: .undef :: .undef :: .undef :: .undef :: .undef :: .undef :: .undef :: .undef :: .undef :: pad 11) []) = some v) : vcall cfg (acall cfg n) 85 [a0, a1] = some v := vcall_dig (acall_val cfg n) (cfgPrim _ _ (by decide)) F.fn85 F.ok85 rfl rfl rfl D.ok85 (by rw [env0S_pad (m := 43) (by simp) (by decide)]; exact h)
@[simp] theorem D.a85 (n : Nat) (ns : List Nat) (args : List AV) (H : Heap) : acall cfg (n + 1) ns 85 args H = callV cfg n 85 args H := acall_callV F.inl85
/- 86 augury/auguryref4.ops -/
def D.h86 : Hint := { nt := 2, keep := [0, 1], raws := [], cals := [], rs := [] }
noncomputable def D.x86_0 : List X := [(.val (.str [])), (.val (.str [97, 100, 100])), (.val (.str [115, 117, 98])), (.val (.str [97, 110, 100])), (.val (.str [111, 114])), (.val (.str [120, 111, 114])), (.val (.str [115, 104, 108])), (.val (.str [115, 104, 114])), (.val (.str [109, 117, 108])), (.val (.str [108, 116])), (.val (.str [101, 113]))]
noncomputable def D.s86 : S := 
  (.seq
    (.eff (some 0) (.move (.const (.slice none 0 0))) [])
    (.seq
      (.seq
        (.eff (some 1) (.buildSlice 34 11 #[(0, .tmp 0), (1, .tmp 1), (2, .tmp 2), (3, .tmp 3), (4, .tmp 4), (5, .tmp 5), (6, .tmp 6), (7, .tmp 7), (8, .tmp 8), (9, .tmp 9), (10, .tmp 10)]) D.x86_0)
        (.sets [(0, (.loc 1))]))
      .ret))
theorem D.ok86 : digFn cfg.P cfg.inl D.h86 0 F.c86 = some D.s86 := by rw [cfgP, cfgIn]; kernel_rfl
theorem D.v86 {n : Nat} {v : AV} (h : finV cfg.P [.tmp 0] (sexec cfg (acall cfg n) D.s86 [] (.undef :: .undef :: pad 0) []) = some v) : vcall cfg (acall cfg n) 86 [] = some v := vcall_dig (acall_val cfg n) (cfgPrim _ _ (by decide)) F.fn86 F.ok86 rfl rfl rfl D.ok86 (by rw [env0S_pad (m := 2) (by simp) (by decide)]; exact h)
@[simp] theorem D.a86 (n : Nat) (ns : List Nat) (args : List AV) (H : Heap) : acall cfg (n + 1) ns 86 args H = callV cfg n 86 args H := acall_callV F.inl86
/- 87 internal/stringslite.Index -/
def D.h87 : Hint := { nt := 143, keep := [0, 1, 4, 5, 6, 7, 8, 9, 10, 11, 12, 13, 36, 37, 38, 39, 40, 41, 42, 43, 44, 99, 100, 101, 102, 103, 104, 105, 106, 107, 118, 119, 120, 121, 122, 123, 124, 125, 126, 127, 128, 129, 130, 131, 132], raws := [8, 25, 30], cals := [], rs := [[4, 11, 12, 13, 36, 37, 38, 39, 40, 41, 42, 43, 44, 99, 100, 101, 102, 107, 118, 119, 120, 121, 127, 128, 132]] }
noncomputable def D.b87_0 : S := 
  (.seq
    (.cond (.bin .lss 3 (.loc 8) (.loc 9))
      .skip
      (.exit 1))
    (.block 2
      (.seq
        (.cond (.bin .neq 5 (.ix 9 (.loc 0) (.loc 8)) (.loc 6))
          (.seq
            (.sets [(11, (.call 92 [(.sl 9 (.loc 0) (.bin .add 3 (.loc 8) (.val (.int .i64 1))) (.loc 9)), (.loc 6)]))])
            (.seq
              (.cond (.bin .lss 3 (.loc 11) (.val (.int .i64 0)))
                (.seq
                  (.sets [(4, (.val (.int .i64 (-1))))])
                  .ret)
                .skip)
              (.sets [(8, (.bin .add 3 (.loc 8) (.bin .add 3 (.loc 11) (.val (.int .i64 1)))))])))
          .skip)
        (.seq
          (.cond (.ite (.bin .eql 5 (.ix 9 (.loc 0) (.bin .add 3 (.loc 8) (.val (.int .i64 1)))) (.loc 7)) (.bin .eql 9 (.sl 9 (.loc 0) (.loc 8) (.bin .add 3 (.loc 8) (.loc 5))) (.loc 1)) (.val (.bool false)))
            (.seq
              (.sets [(4, (.loc 8))])
              .ret)
            .skip)
          (.seq
            (.sets [(8, (.bin .add 3 (.loc 8) (.val (.int .i64 1))))])
            (.seq
              (.sets [(10, (.bin .add 3 (.loc 10) (.val (.int .i64 1))))])
              (.seq
                (.raw (regOps F.c87 25) false)
                (.cond (.loc 107)
                  (.seq
                    (.sets [(12, (.call 93 [(.slh 9 (.loc 0) (.loc 8)), (.loc 1)]))])
                    (.seq
                      (.cond (.bin .geq 3 (.loc 12) (.val (.int .i64 0)))
                        (.seq
                          (.sets [(4, (.bin .add 3 (.loc 12) (.loc 8)))])
                          .ret)
                        .skip)
                      (.seq
                        (.sets [(4, (.val (.int .i64 (-1))))])
                        .ret)))
                  (.seq
                    (.raw (regOps F.c87 30) false)
                    (.cond (.loc 132)
                      (.seq
                        (.sets [(13, (.call 95 [(.slh 9 (.loc 0) (.loc 8)), (.loc 1)]))])
                        (.seq
                          (.cond (.bin .lss 3 (.loc 13) (.val (.int .i64 0)))
                            (.seq
                              (.sets [(4, (.val (.int .i64 (-1))))])
                              .ret)
                            .skip)
                          (.seq
                            (.sets [(4, (.bin .add 3 (.loc 8) (.loc 13)))])
                            .ret)))
                      .skip))))))))))
theorem D.e87_0 {C : Cfg} {call : Callee'} {ns : List Nat} {L : Env} {H : Heap} : sexec C call D.b87_0 ns L H = sexec C call
  (.seq
    (.cond (.bin .lss 3 (.loc 8) (.loc 9))
      .skip
      (.exit 1))
    (.block 2
      (.seq
        (.cond (.bin .neq 5 (.ix 9 (.loc 0) (.loc 8)) (.loc 6))
          (.seq
            (.sets [(11, (.call 92 [(.sl 9 (.loc 0) (.bin .add 3 (.loc 8) (.val (.int .i64 1))) (.loc 9)), (.loc 6)]))])
            (.seq
              (.cond (.bin .lss 3 (.loc 11) (.val (.int .i64 0)))
                (.seq
                  (.sets [(4, (.val (.int .i64 (-1))))])
                  .ret)
                .skip)
              (.sets [(8, (.bin .add 3 (.loc 8) (.bin .add 3 (.loc 11) (.val (.int .i64 1)))))])))
          .skip)
        (.seq
          (.cond (.ite (.bin .eql 5 (.ix 9 (.loc 0) (.bin .add 3 (.loc 8) (.val (.int .i64 1)))) (.loc 7)) (.bin .eql 9 (.sl 9 (.loc 0) (.loc 8) (.bin .add 3 (.loc 8) (.loc 5))) (.loc 1)) (.val (.bool false)))
            (.seq
              (.sets [(4, (.loc 8))])
              .ret)
            .skip)
          (.seq
            (.sets [(8, (.bin .add 3 (.loc 8) (.val (.int .i64 1))))])
            (.seq
              (.sets [(10, (.bin .add 3 (.loc 10) (.val (.int .i64 1))))])
              (.seq
                (.raw (regOps F.c87 25) false)
                (.cond (.loc 107)
                  (.seq
                    (.sets [(12, (.call 93 [(.slh 9 (.loc 0) (.loc 8)), (.loc 1)]))])
                    (.seq
                      (.cond (.bin .geq 3 (.loc 12) (.val (.int .i64 0)))
                        (.seq
                          (.sets [(4, (.bin .add 3 (.loc 12) (.loc 8)))])
                          .ret)
                        .skip)
                      (.seq
                        (.sets [(4, (.val (.int .i64 (-1))))])
                        .ret)))
                  (.seq
                    (.raw (regOps F.c87 30) false)
                    (.cond (.loc 132)
                      (.seq
                        (.sets [(13, (.call 95 [(.slh 9 (.loc 0) (.loc 8)), (.loc 1)]))])
                        (.seq
                          (.cond (.bin .lss 3 (.loc 13) (.val (.int .i64 0)))
                            (.seq
                              (.sets [(4, (.val (.int .i64 (-1))))])
                              .ret)
                            .skip)
                          (.seq
                            (.sets [(4, (.bin .add 3 (.loc 8) (.loc 13)))])
                            .ret)))
                      .skip)))))))))) ns L H := rfl
noncomputable def D.s87 : S := 
  (.seq
    (.sets [(4, (.val (.int .i64 0)))])
    (.seq
      (.sets [(5, (.len 9 (.loc 1)))])
      (.seq
        (.block 0
          (.cond (.ite (.bin .eql 3 (.loc 5) (.val (.int .i64 0))) (.val (.bool true)) (.bin .eql 9 (.loc 1) (.loc 0)))
            (.seq
              (.sets [(4, (.val (.int .i64 0)))])
              .ret)
            (.cond (.bin .eql 3 (.loc 5) (.val (.int .i64 1)))
              (.seq
                (.sets [(4, (.call 92 [(.loc 0), (.ix 9 (.loc 1) (.val (.int .i64 0)))]))])
                .ret)
              (.cond (.bin .geq 3 (.loc 5) (.len 9 (.loc 0)))
                (.seq
                  (.sets [(4, (.val (.int .i64 (-1))))])
                  .ret)
                (.seq
                  (.raw (regOps F.c87 8) false)
                  (.cond (.loc 36)
                    (.seq
                      (.sets [(4, (.call 93 [(.loc 0), (.loc 1)]))])
                      .ret)
                    .skip))))))
        (.seq
          (.sets [(6, (.ix 9 (.loc 1) (.val (.int .i64 0))))])
          (.seq
            (.sets [(7, (.ix 9 (.loc 1) (.val (.int .i64 1))))])
            (.seq
              (.sets [(8, (.val (.int .i64 0)))])
              (.seq
                (.sets [(9, (.bin .add 3 (.bin .sub 3 (.len 9 (.loc 0)) (.loc 5)) (.val (.int .i64 1))))])
                (.seq
                  (.sets [(10, (.val (.int .i64 0)))])
                  (.seq
                    (.block 1
                      (.loop [4, 11, 12, 13, 36, 37, 38, 39, 40, 41, 42, 43, 44, 99, 100, 101, 102, 107, 118, 119, 120, 121, 127, 128, 132] D.b87_0))
                    (.seq
                      (.sets [(4, (.val (.int .i64 (-1))))])
                      .ret))))))))))
theorem D.ok87 : digFn cfg.P cfg.inl D.h87 2 F.c87 = some D.s87 := by rw [cfgP, cfgIn]; kernel_rfl
theorem D.v87 {n : Nat} {a0 a1 : AV} {v : AV} (h : finV cfg.P [.tmp 4] (sexec cfg (acall cfg n) D.s87 [] (a0 :: a1 :: .undef :: .undef :: .undef :: .undef :: .undef :: .undef :: .undef :: .undef :: .undef :: .undef :: .undef :: .undef :: .undef :: .undef :: .undef :: .undef :: .undef :: .undef :: .undef :: .undef :: .undef :: .undef :: .undef :: .undef :: .undef :: .undef :: .undef :: .undef :: .undef :: .undef :: .undef :: .undef :: .undef :: .undef :: .undef :: .undef :: .undef :: .undef :: .undef :: .undef :: .undef :: .undef :: .undef :: .undef :: .undef :: .undef :: .undef :: .undef :: .undef :: .undef :: .undef :: .undef :: .undef :: .undef :: .undef :: .undef :: .undef :: .undef :: .undef :: .undef :: .undef :: .undef :: .undef :: .undef :: .undef :: .undef :: .undef :: .undef :: .undef :: .undef :: .undef :: .undef :: .undef :: .undef :: .undef :: .undef :: .undef :: .undef :: .undef :: .undef :: .undef :: .undef :: .undef :: .undef :: .undef :: .undef :: .undef :: .undef :: .undef :: .undef :: .undef :: .undef :: .undef :: .undef :: .undef :: .undef :: .undef :: .undef :: .undef :: .undef :: .undef :: .undef :: .undef :: .undef :: .undef :: .undef :: .undef :: .undef :: .undef :: .undef :: .undef :: .undef :: .undef :: .undef :: .undef :: .undef :: .undef :: .undef :: .undef :: .undef :: .undef :: .undef :: .undef :: .undef :: .undef :: .undef :: .undef :: .undef :: .undef :: .undef :: .undef :: pad 10) []) = some v) : vcall cfg (acall cfg n) 87 [a0, a1] = some v := vcall_dig (acall_val cfg n) (cfgPrim _ _ (by decide)) F.fn87 F.ok87 rfl rfl rfl D.ok87 (by rw [env0S_pad (m := 133) (by simp) (by decide)]; exact h)
@[simp] theorem D.a87 (n : Nat) (ns : List Nat) (args : List AV) (H : Heap) : acall cfg (n + 1) ns 87 args H = callV cfg n 87 args H := acall_callV F.inl87
/- 88 internal/strconv.small -/
def D.h88 : Hint := { nt := 15, keep := [0, 2], raws := [], cals := [], rs := [] }
noncomputable def D.s88 : S := 
  (.seq
    (.sets [(2, (.val (.str [])))])
    (.seq
      (.cond (.bin .lss 3 (.loc 0) (.val (.int .i64 10)))
        (.seq
          (.sets [(2, (.sl 9 (.val (.str [48, 49, 50, 51, 52, 53, 54, 55, 56, 57, 97, 98, 99, 100, 101, 102, 103, 104, 105, 106, 107, 108, 109, 110, 111, 112, 113, 114, 115, 116, 117, 118, 119, 120, 121, 122])) (.loc 0) (.bin .add 3 (.loc 0) (.val (.int .i64 1)))))])
          .ret)
        .skip)
      (.seq
        (.sets [(2, (.sl 9 (.val (.str [48, 48, 48, 49, 48, 50, 48, 51, 48, 52, 48, 53, 48, 54, 48, 55, 48, 56, 48, 57, 49, 48, 49, 49, 49, 50, 49, 51, 49, 52, 49, 53, 49, 54, 49, 55, 49, 56, 49, 57, 50, 48, 50, 49, 50, 50, 50, 51, 50, 52, 50, 53, 50, 54, 50, 55, 50, 56, 50, 57, 51, 48, 51, 49, 51, 50, 51, 51, 51, 52, 51, 53, 51, 54, 51, 55, 51, 56, 51, 57, 52, 48, 52, 49, 52, 50, 52, 51, 52, 52, 52, 53, 52, 54, 52, 55, 52, 56, 52, 57, 53, 48, 53, 49, 53, 50, 53, 51, 53, 52, 53, 53, 53, 54, 53, 55, 53, 56, 53, 57, 54, 48, 54, 49, 54, 50, 54, 51, 54, 52, 54, 53, 54, 54, 54, 55, 54, 56, 54, 57, 55, 48, 55, 49, 55, 50, 55, 51, 55, 52, 55, 53, 55, 54, 55, 55, 55, 56, 55, 57, 56, 48, 56, 49, 56, 50, 56, 51, 56, 52, 56, 53, 56, 54, 56, 55, 56, 56, 56, 57, 57, 48, 57, 49, 57, 50, 57, 51, 57, 52, 57, 53, 57, 54, 57, 55, 57, 56, 57, 57])) (.bin .mul 3 (.loc 0) (.val (.int .i64 2))) (.bin .add 3 (.bin .mul 3 (.loc 0) (.val (.int .i64 2))) (.val (.int .i64 2)))))])
        .ret)))
theorem D.ok88 : digFn cfg.P cfg.inl D.h88 1 F.c88 = some D.s88 := by rw [cfgP, cfgIn]; kernel_rfl
theorem D.v88 {n : Nat} {a0 : AV} {v : AV} (h : finV cfg.P [.tmp 2] (sexec cfg (acall cfg n) D.s88 [] (a0 :: .undef :: .undef :: pad 12) []) = some v) : vcall cfg (acall cfg n) 88 [a0] = some v := vcall_dig (acall_val cfg n) (cfgPrim _ _ (by decide)) F.fn88 F.ok88 rfl rfl rfl D.ok88 (by rw [env0S_pad (m := 3) (by simp) (by decide)]; exact h)
@[simp] theorem D.a88 (n : Nat) (ns : List Nat) (args : List AV) (H : Heap) : acall cfg (n + 1) ns 88 args H = callV cfg n 88 args H := acall_callV F.inl88
/- 89 internal/strconv.numDigits -/
def D.h89 : Hint := { nt := 15, keep := [0, 2, 3, 7, 8, 9, 10, 11, 12, 13, 14], raws := [2], cals := [], rs := [] }
noncomputable def D.s89 : S := 
  (.seq
    (.sets [(2, (.val (.int .i64 0)))])
    (.seq
      (.sets [(3, (.call 96 [(.call 97 [(.loc 0)])]))])
      (.seq
        (.raw (regOps F.c89 2) false)
        .ret)))
theorem D.ok89 : digFn cfg.P cfg.inl D.h89 1 F.c89 = some D.s89 := by rw [cfgP, cfgIn]; kernel_rfl
theorem D.v89 {n : Nat} {a0 : AV} {v : AV} (h : finV cfg.P [.tmp 2] (sexec cfg (acall cfg n) D.s89 [] (a0 :: .undef :: .undef :: .undef :: .undef :: .undef :: .undef :: .undef :: .undef :: .undef :: .undef :: .undef :: .undef :: .undef :: .undef :: pad 0) []) = some v) : vcall cfg (acall cfg n) 89 [a0] = some v := vcall_dig (acall_val cfg n) (cfgPrim _ _ (by decide)) F.fn89 F.ok89 rfl rfl rfl D.ok89 (by rw [env0S_pad (m := 15) (by simp) (by decide)]; exact h)
@[simp] theorem D.a89 (n : Nat) (ns : List Nat) (args : List AV) (H : Heap) : acall cfg (n + 1) ns 89 args H = callV cfg n 89 args H := acall_callV F.inl89
/- 90 internal/strconv.formatBase10 -/
def D.h90 : Hint := { nt := 167, keep := [0, 1, 4, 5, 6, 7, 8, 9, 10, 11, 12, 13, 14, 15, 16, 42, 43, 44, 45, 46, 47, 48, 49, 50, 51, 52, 53, 54, 55, 56, 57, 58, 59, 60, 61, 62, 63, 64, 65, 66, 67, 68, 69, 70, 71, 72, 73, 74, 75, 76, 77, 78, 79, 80, 81, 82, 83, 84, 85, 86, 87, 88, 89, 90, 91, 92, 93, 110, 111, 112, 113, 114, 115, 116, 117, 118, 119, 120, 121, 122, 123, 124, 125, 126, 127, 128, 129, 130, 131, 132, 133, 134, 135, 145, 146, 147, 148, 149, 150, 151, 152, 153, 154, 155, 156, 157], raws := [7, 8, 9, 10, 17, 18, 23], cals := [], rs := [[5, 6, 7, 8, 9, 10, 11, 12, 13, 14, 15, 16, 42, 43, 44, 45, 46, 47, 48, 49, 50, 51, 52, 53, 54, 55, 56, 57, 58, 59, 60, 61, 62, 63, 64, 65, 66, 67, 68, 69, 70, 71, 72, 73, 74, 75, 76, 77, 78, 79, 80, 81, 82, 83, 84, 85, 86, 87, 88, 89, 90, 91, 92, 93, 110, 111, 112, 113, 114, 115, 116, 117, 118, 119, 120, 121, 122, 123, 124, 125, 126, 127, 128, 129, 130, 131, 132, 133, 134, 135, 145, 146, 147, 148, 149, 150, 151, 152, 153, 154, 155, 156, 157]] }
noncomputable def D.b90_0 : S := 
  (.seq
    (.cond (.bin .geq 3 (.loc 4) (.val (.int .i64 8)))
      .skip
      (.exit 0))
    (.block 1
      (.seq
        (.sets [(5, (.conv 106 114 (.bin .rem 106 (.loc 1) (.val (.int .u64 100000000)))))])
        (.seq
          (.sets [(1, (.bin .quo 106 (.loc 1) (.val (.int .u64 100000000))))])
          (.seq
            (.sets [(7, (.bin .rem 114 (.loc 5) (.val (.int .u32 10000)))), (6, (.bin .quo 114 (.loc 5) (.val (.int .u32 10000))))])
            (.seq
              (.sets [(9, (.bin .mul 114 (.bin .rem 114 (.loc 7) (.val (.int .u32 100))) (.val (.int .u32 2)))), (8, (.bin .mul 114 (.bin .quo 114 (.loc 7) (.val (.int .u32 100))) (.val (.int .u32 2))))])
              (.seq
                (.sets [(11, (.bin .mul 114 (.bin .rem 114 (.loc 6) (.val (.int .u32 100))) (.val (.int .u32 2)))), (10, (.bin .mul 114 (.bin .quo 114 (.loc 6) (.val (.int .u32 100))) (.val (.int .u32 2))))])
                (.seq
                  (.raw (regOps F.c90 7) true)
                  (.seq
                    (.raw (regOps F.c90 8) true)
                    (.seq
                      (.raw (regOps F.c90 9) true)
                      (.seq
                        (.raw (regOps F.c90 10) true)
                        (.sets [(4, (.bin .sub 3 (.loc 4) (.val (.int .i64 8))))]))))))))))))
theorem D.e90_0 {C : Cfg} {call : Callee'} {ns : List Nat} {L : Env} {H : Heap} : sexec C call D.b90_0 ns L H = sexec C call
  (.seq
    (.cond (.bin .geq 3 (.loc 4) (.val (.int .i64 8)))
      .skip
      (.exit 0))
    (.block 1
      (.seq
        (.sets [(5, (.conv 106 114 (.bin .rem 106 (.loc 1) (.val (.int .u64 100000000)))))])
        (.seq
          (.sets [(1, (.bin .quo 106 (.loc 1) (.val (.int .u64 100000000))))])
          (.seq
            (.sets [(7, (.bin .rem 114 (.loc 5) (.val (.int .u32 10000)))), (6, (.bin .quo 114 (.loc 5) (.val (.int .u32 10000))))])
            (.seq
              (.sets [(9, (.bin .mul 114 (.bin .rem 114 (.loc 7) (.val (.int .u32 100))) (.val (.int .u32 2)))), (8, (.bin .mul 114 (.bin .quo 114 (.loc 7) (.val (.int .u32 100))) (.val (.int .u32 2))))])
              (.seq
                (.sets [(11, (.bin .mul 114 (.bin .rem 114 (.loc 6) (.val (.int .u32 100))) (.val (.int .u32 2)))), (10, (.bin .mul 114 (.bin .quo 114 (.loc 6) (.val (.int .u32 100))) (.val (.int .u32 2))))])
                (.seq
                  (.raw (regOps F.c90 7) true)
                  (.seq
                    (.raw (regOps F.c90 8) true)
                    (.seq
                      (.raw (regOps F.c90 9) true)
                      (.seq
                        (.raw (regOps F.c90 10) true)
                        (.sets [(4, (.bin .sub 3 (.loc 4) (.val (.int .i64 8))))])))))))))))) ns L H := rfl
noncomputable def D.s90 : S := 
  (.seq
    (.sets [(4, (.len 44 (.loc 0)))])
    (.seq
      (.block 0
        (.loop [5, 6, 7, 8, 9, 10, 11, 12, 13, 14, 15, 16, 42, 43, 44, 45, 46, 47, 48, 49, 50, 51, 52, 53, 54, 55, 56, 57, 58, 59, 60, 61, 62, 63, 64, 65, 66, 67, 68, 69, 70, 71, 72, 73, 74, 75, 76, 77, 78, 79, 80, 81, 82, 83, 84, 85, 86, 87, 88, 89, 90, 91, 92, 93, 110, 111, 112, 113, 114, 115, 116, 117, 118, 119, 120, 121, 122, 123, 124, 125, 126, 127, 128, 129, 130, 131, 132, 133, 134, 135, 145, 146, 147, 148, 149, 150, 151, 152, 153, 154, 155, 156, 157] D.b90_0))
      (.seq
        (.sets [(12, (.conv 106 114 (.loc 1)))])
        (.seq
          (.cond (.bin .geq 3 (.loc 4) (.val (.int .i64 4)))
            (.seq
              (.sets [(13, (.bin .rem 114 (.loc 12) (.val (.int .u32 10000))))])
              (.seq
                (.sets [(12, (.bin .quo 114 (.loc 12) (.val (.int .u32 10000))))])
                (.seq
                  (.sets [(15, (.bin .mul 114 (.bin .rem 114 (.loc 13) (.val (.int .u32 100))) (.val (.int .u32 2)))), (14, (.bin .mul 114 (.bin .quo 114 (.loc 13) (.val (.int .u32 100))) (.val (.int .u32 2))))])
                  (.seq
                    (.raw (regOps F.c90 17) true)
                    (.seq
                      (.raw (regOps F.c90 18) true)
                      (.sets [(4, (.bin .sub 3 (.loc 4) (.val (.int .i64 4))))]))))))
            .skip)
          (.seq
            (.cond (.bin .geq 3 (.loc 4) (.val (.int .i64 2)))
              (.seq
                (.sets [(16, (.bin .mul 114 (.bin .rem 114 (.loc 12) (.val (.int .u32 100))) (.val (.int .u32 2))))])
                (.seq
                  (.sets [(12, (.bin .quo 114 (.loc 12) (.val (.int .u32 100))))])
                  (.seq
                    (.raw (regOps F.c90 23) true)
                    (.sets [(4, (.bin .sub 3 (.loc 4) (.val (.int .i64 2))))]))))
              .skip)
            (.cond (.bin .gtr 3 (.loc 4) (.val (.int .i64 0)))
              (.eff none (.store 5 (.tmp 0) (.tmp 1)) [(.ia 44 (.loc 0) (.val (.int .i64 0))), (.conv 114 5 (.bin .add 114 (.val (.int .u32 48)) (.loc 12)))])
              .skip))))))
theorem D.ok90 : digFn cfg.P cfg.inl D.h90 2 F.c90 = some D.s90 := by rw [cfgP, cfgIn]; kernel_rfl
theorem D.v90 {n : Nat} {a0 a1 : AV} {v : AV} (h : finV cfg.P [] (sexec cfg (acall cfg n) D.s90 [] (a0 :: a1 :: .undef :: .undef :: .undef :: .undef :: .undef :: .undef :: .undef :: .undef :: .undef :: .undef :: .undef :: .undef :: .undef :: .undef :: .undef :: .undef :: .undef :: .undef :: .undef :: .undef :: .undef :: .undef :: .undef :: .undef :: .undef :: .undef :: .undef :: .undef :: .undef :: .undef :: .undef :: .undef :: .undef :: .undef :: .undef :: .undef :: .undef :: .undef :: .undef :: .undef :: .undef :: .undef :: .undef :: .undef :: .undef :: .undef :: .undef :: .undef :: .undef :: .undef :: .undef :: .undef :: .undef :: .undef :: .undef :: .undef :: .undef :: .undef :: .undef :: .undef :: .undef :: .undef :: .undef :: .undef :: .undef :: .undef :: .undef :: .undef :: .undef :: .undef :: .undef :: .undef :: .undef :: .undef :: .undef :: .undef :: .undef :: .undef :: .undef :: .undef :: .undef :: .undef :: .undef :: .undef :: .undef :: .undef :: .undef :: .undef :: .undef :: .undef :: .undef :: .undef :: .undef :: .undef :: .undef :: .undef :: .undef :: .undef :: .undef :: .undef :: .undef :: .undef :: .undef :: .undef :: .undef :: .undef :: .undef :: .undef :: .undef :: .undef :: .undef :: .undef :: .undef :: .undef :: .undef :: .undef :: .undef :: .undef :: .undef :: .undef :: .undef :: .undef :: .undef :: .undef :: .undef :: .undef :: .undef :: .undef :: .undef :: .undef :: .undef :: .undef :: .undef :: .undef :: .undef :: .undef :: .undef :: .undef :: .undef :: .undef :: .undef :: .undef :: .undef :: .undef :: .undef :: .undef :: .undef :: .undef :: .undef :: .undef :: .undef :: .undef :: .undef :: .undef :: .undef :: .undef :: pad 9) []) = some v) : vcall cfg (acall cfg n) 90 [a0, a1] = some v := vcall_dig (acall_val cfg n) (cfgPrim _ _ (by decide)) F.fn90 F.ok90 rfl rfl rfl D.ok90 (by rw [env0S_pad (m := 158) (by simp) (by decide)]; exact h)
@[simp] theorem D.a90 (n : Nat) (ns : List Nat) (args : List AV) (H : Heap) : acall cfg (n + 1) ns 90 args H = callV cfg n 90 args H := acall_callV F.inl90
/- 92 internal/stringslite.IndexByte -/
def D.h92 : Hint := { nt := 8, keep := [0, 1, 4], raws := [], cals := [], rs := [] }
noncomputable def D.s92 : S := 
  (.seq
    (.sets [(4, (.val (.int .i64 0)))])
    (.seq
      (.sets [(4, (.call 101 [(.loc 0), (.loc 1)]))])
      .ret))
theorem D.ok92 : digFn cfg.P cfg.inl D.h92 2 F.c92 = some D.s92 := by rw [cfgP, cfgIn]; kernel_rfl
theorem D.v92 {n : Nat} {a0 a1 : AV} {v : AV} (h : finV cfg.P [.tmp 4] (sexec cfg (acall cfg n) D.s92 [] (a0 :: a1 :: .undef :: .undef :: .undef :: pad 3) []) = some v) : vcall cfg (acall cfg n) 92 [a0, a1] = some v := vcall_dig (acall_val cfg n) (cfgPrim _ _ (by decide)) F.fn92 F.ok92 rfl rfl rfl D.ok92 (by rw [env0S_pad (m := 5) (by simp) (by decide)]; exact h)
@[simp] theorem D.a92 (n : Nat) (ns : List Nat) (args : List AV) (H : Heap) : acall cfg (n + 1) ns 92 args H = callV cfg n 92 args H := acall_callV F.inl92
/- 94 internal/bytealg.Cutover -/
def D.h94 : Hint := { nt := 6, keep := [0, 2], raws := [], cals := [], rs := [] }
noncomputable def D.s94 : S := 
  (.seq
    (.sets [(2, (.val (.int .i64 0)))])
    (.seq
      (.sets [(2, (.bin .quo 3 (.bin .add 3 (.loc 0) (.val (.int .i64 16))) (.val (.int .i64 8))))])
      .ret))
theorem D.ok94 : digFn cfg.P cfg.inl D.h94 1 F.c94 = some D.s94 := by rw [cfgP, cfgIn]; kernel_rfl
theorem D.v94 {n : Nat} {a0 : AV} {v : AV} (h : finV cfg.P [.tmp 2] (sexec cfg (acall cfg n) D.s94 [] (a0 :: .undef :: .undef :: pad 3) []) = some v) : vcall cfg (acall cfg n) 94 [a0] = some v := vcall_dig (acall_val cfg n) (cfgPrim _ _ (by decide)) F.fn94 F.ok94 rfl rfl rfl D.ok94 (by rw [env0S_pad (m := 3) (by simp) (by decide)]; exact h)
@[simp] theorem D.a94 (n : Nat) (ns : List Nat) (args : List AV) (H : Heap) : acall cfg (n + 1) ns 94 args H = callV cfg n 94 args H := acall_callV F.inl94
/- 95 internal/bytealg.IndexRabinKarp[string] -/
def D.h95 : Hint := { nt := 81, keep := [0, 1, 4, 5, 6, 7, 8, 9, 10], raws := [], cals := [], rs := [[4, 10], [4, 9]] }
noncomputable def D.b95_1 : S := 
  (.seq
    (.cond (.bin .lss 3 (.loc 10) (.len 9 (.loc 0)))
      .skip
      (.exit 2))
    (.block 3
      (.seq
        (.sets [(8, (.bin .mul 114 (.loc 8) (.val (.int .u32 16777619))))])
        (.seq
          (.sets [(8, (.bin .add 114 (.loc 8) (.conv 5 114 (.ix 9 (.loc 0) (.loc 10)))))])
          (.seq
            (.sets [(8, (.bin .sub 114 (.loc 8) (.bin .mul 114 (.loc 6) (.conv 5 114 (.ix 9 (.loc 0) (.bin .sub 3 (.loc 10) (.loc 7)))))))])
            (.seq
              (.sets [(10, (.bin .add 3 (.loc 10) (.val (.int .i64 1))))])
              (.cond (.ite (.bin .eql 114 (.loc 8) (.loc 5)) (.bin .eql 9 (.sl 9 (.loc 0) (.bin .sub 3 (.loc 10) (.loc 7)) (.loc 10)) (.loc 1)) (.val (.bool false)))
                (.seq
                  (.sets [(4, (.bin .sub 3 (.loc 10) (.loc 7)))])
                  .ret)
                .skip)))))))
theorem D.e95_1 {C : Cfg} {call : Callee'} {ns : List Nat} {L : Env} {H : Heap} : sexec C call D.b95_1 ns L H = sexec C call
  (.seq
    (.cond (.bin .lss 3 (.loc 10) (.len 9 (.loc 0)))
      .skip
      (.exit 2))
    (.block 3
      (.seq
        (.sets [(8, (.bin .mul 114 (.loc 8) (.val (.int .u32 16777619))))])
        (.seq
          (.sets [(8, (.bin .add 114 (.loc 8) (.conv 5 114 (.ix 9 (.loc 0) (.loc 10)))))])
          (.seq
            (.sets [(8, (.bin .sub 114 (.loc 8) (.bin .mul 114 (.loc 6) (.conv 5 114 (.ix 9 (.loc 0) (.bin .sub 3 (.loc 10) (.loc 7)))))))])
            (.seq
              (.sets [(10, (.bin .add 3 (.loc 10) (.val (.int .i64 1))))])
              (.cond (.ite (.bin .eql 114 (.loc 8) (.loc 5)) (.bin .eql 9 (.sl 9 (.loc 0) (.bin .sub 3 (.loc 10) (.loc 7)) (.loc 10)) (.loc 1)) (.val (.bool false)))
                (.seq
                  (.sets [(4, (.bin .sub 3 (.loc 10) (.loc 7)))])
                  .ret)
                .skip))))))) ns L H := rfl
noncomputable def D.b95_0 : S := 
  (.seq
    (.cond (.bin .lss 3 (.loc 9) (.loc 7))
      .skip
      (.exit 0))
    (.seq
      (.block 1
        (.sets [(8, (.bin .add 114 (.bin .mul 114 (.loc 8) (.val (.int .u32 16777619))) (.conv 5 114 (.ix 9 (.loc 0) (.loc 9)))))]))
      (.sets [(9, (.bin .add 3 (.loc 9) (.val (.int .i64 1))))])))
theorem D.e95_0 {C : Cfg} {call : Callee'} {ns : List Nat} {L : Env} {H : Heap} : sexec C call D.b95_0 ns L H = sexec C call
  (.seq
    (.cond (.bin .lss 3 (.loc 9) (.loc 7))
      .skip
      (.exit 0))
    (.seq
      (.block 1
        (.sets [(8, (.bin .add 114 (.bin .mul 114 (.loc 8) (.val (.int .u32 16777619))) (.conv 5 114 (.ix 9 (.loc 0) (.loc 9)))))]))
      (.sets [(9, (.bin .add 3 (.loc 9) (.val (.int .i64 1))))]))) ns L H := rfl
noncomputable def D.s95 : S := 
  (.seq
    (.sets [(4, (.val (.int .i64 0)))])
    (.seq
      (.sets [(6, (.ext (.call 102 [(.loc 1)]) 1)), (5, (.ext (.call 102 [(.loc 1)]) 0))])
      (.seq
        (.sets [(7, (.len 9 (.loc 1)))])
        (.seq
          (.sets [(8, (.val (.int .u32 0)))])
          (.seq
            (.seq
              (.sets [(9, (.val (.int .i64 0)))])
              (.block 0
                (.loop [4, 10] D.b95_0)))
            (.seq
              (.cond (.ite (.bin .eql 114 (.loc 8) (.loc 5)) (.bin .eql 9 (.sl 9 (.loc 0) (.val (.int .i64 0)) (.loc 7)) (.loc 1)) (.val (.bool false)))
                (.seq
                  (.sets [(4, (.val (.int .i64 0)))])
                  .ret)
                .skip)
              (.seq
                (.seq
                  (.sets [(10, (.loc 7))])
                  (.block 2
                    (.loop [4, 9] D.b95_1)))
                (.seq
                  (.sets [(4, (.val (.int .i64 (-1))))])
                  .ret))))))))
theorem D.ok95 : digFn cfg.P cfg.inl D.h95 2 F.c95 = some D.s95 := by rw [cfgP, cfgIn]; kernel_rfl
theorem D.v95 {n : Nat} {a0 a1 : AV} {v : AV} (h : finV cfg.P [.tmp 4] (sexec cfg (acall cfg n) D.s95 [] (a0 :: a1 :: .undef :: .undef :: .undef :: .undef :: .undef :: .undef :: .undef :: .undef :: .undef :: pad 70) []) = some v) : vcall cfg (acall cfg n) 95 [a0, a1] = some v := vcall_dig (acall_val cfg n) (cfgPrim _ _ (by decide)) F.fn95 F.ok95 rfl rfl rfl D.ok95 (by rw [env0S_pad (m := 11) (by simp) (by decide)]; exact h)
@[simp] theorem D.a95 (n : Nat) (ns : List Nat) (args : List AV) (H : Heap) : acall cfg (n + 1) ns 95 args H = callV cfg n 95 args H := acall_callV F.inl95
/- 96 internal/strconv.log10Pow2 -/
def D.h96 : Hint := { nt := 6, keep := [0, 2], raws := [], cals := [], rs := [] }
noncomputable def D.s96 : S := 
  (.seq
    (.sets [(2, (.val (.int .i64 0)))])
    (.seq
      (.sets [(2, (.bin .shr 3 (.bin .mul 3 (.loc 0) (.val (.int .i64 78913))) (.val (.int .u64 18))))])
      .ret))
theorem D.ok96 : digFn cfg.P cfg.inl D.h96 1 F.c96 = some D.s96 := by rw [cfgP, cfgIn]; kernel_rfl
theorem D.v96 {n : Nat} {a0 : AV} {v : AV} (h : finV cfg.P [.tmp 2] (sexec cfg (acall cfg n) D.s96 [] (a0 :: .undef :: .undef :: pad 3) []) = some v) : vcall cfg (acall cfg n) 96 [a0] = some v := vcall_dig (acall_val cfg n) (cfgPrim _ _ (by decide)) F.fn96 F.ok96 rfl rfl rfl D.ok96 (by rw [env0S_pad (m := 3) (by simp) (by decide)]; exact h)
@[simp] theorem D.a96 (n : Nat) (ns : List Nat) (args : List AV) (H : Heap) : acall cfg (n + 1) ns 96 args H = callV cfg n 96 args H := acall_callV F.inl96
/- 97 math/bits.Len64 -/
def D.h97 : Hint := { nt := 25, keep := [0, 2], raws := [], cals := [], rs := [] }
noncomputable def D.s97 : S := 
  (.seq
    (.sets [(2, (.val (.int .i64 0)))])
    (.seq
      (.cond (.bin .geq 106 (.loc 0) (.val (.int .u64 4294967296)))
        (.seq
          (.sets [(0, (.bin .shr 106 (.loc 0) (.val (.int .u64 32))))])
          (.sets [(2, (.val (.int .i64 32)))]))
        .skip)
      (.seq
        (.cond (.bin .geq 106 (.loc 0) (.val (.int .u64 65536)))
          (.seq
            (.sets [(0, (.bin .shr 106 (.loc 0) (.val (.int .u64 16))))])
            (.sets [(2, (.bin .add 3 (.loc 2) (.val (.int .i64 16))))]))
          .skip)
        (.seq
          (.cond (.bin .geq 106 (.loc 0) (.val (.int .u64 256)))
            (.seq
              (.sets [(0, (.bin .shr 106 (.loc 0) (.val (.int .u64 8))))])
              (.sets [(2, (.bin .add 3 (.loc 2) (.val (.int .i64 8))))]))
            .skip)
          (.seq
            (.sets [(2, (.bin .add 3 (.loc 2) (.conv 5 3 (.ix 9 (.val (.str [0, 1, 2, 2, 3, 3, 3, 3, 4, 4, 4, 4, 4, 4, 4, 4, 5, 5, 5, 5, 5, 5, 5, 5, 5, 5, 5, 5, 5, 5, 5, 5, 6, 6, 6, 6, 6, 6, 6, 6, 6, 6, 6, 6, 6, 6, 6, 6, 6, 6, 6, 6, 6, 6, 6, 6, 6, 6, 6, 6, 6, 6, 6, 6, 7, 7, 7, 7, 7, 7, 7, 7, 7, 7, 7, 7, 7, 7, 7, 7, 7, 7, 7, 7, 7, 7, 7, 7, 7, 7, 7, 7, 7, 7, 7, 7, 7, 7, 7, 7, 7, 7, 7, 7, 7, 7, 7, 7, 7, 7, 7, 7, 7, 7, 7, 7, 7, 7, 7, 7, 7, 7, 7, 7, 7, 7, 7, 7, 8, 8, 8, 8, 8, 8, 8, 8, 8, 8, 8, 8, 8, 8, 8, 8, 8, 8, 8, 8, 8, 8, 8, 8, 8, 8, 8, 8, 8, 8, 8, 8, 8, 8, 8, 8, 8, 8, 8, 8, 8, 8, 8, 8, 8, 8, 8, 8, 8, 8, 8, 8, 8, 8, 8, 8, 8, 8, 8, 8, 8, 8, 8, 8, 8, 8, 8, 8, 8, 8, 8, 8, 8, 8, 8, 8, 8, 8, 8, 8, 8, 8, 8, 8, 8, 8, 8, 8, 8, 8, 8, 8, 8, 8, 8, 8, 8, 8, 8, 8, 8, 8, 8, 8, 8, 8, 8, 8, 8, 8, 8, 8, 8, 8, 8, 8, 8, 8, 8, 8, 8, 8, 8, 8, 8, 8, 8, 8])) (.conv 106 5 (.loc 0))))))])
            .ret)))))
theorem D.ok97 : digFn cfg.P cfg.inl D.h97 1 F.c97 = some D.s97 := by rw [cfgP, cfgIn]; kernel_rfl
theorem D.v97 {n : Nat} {a0 : AV} {v : AV} (h : finV cfg.P [.tmp 2] (sexec cfg (acall cfg n) D.s97 [] (a0 :: .undef :: .undef :: pad 22) []) = some v) : vcall cfg (acall cfg n) 97 [a0] = some v := vcall_dig (acall_val cfg n) (cfgPrim _ _ (by decide)) F.fn97 F.ok97 rfl rfl rfl D.ok97 (by rw [env0S_pad (m := 3) (by simp) (by decide)]; exact h)
@[simp] theorem D.a97 (n : Nat) (ns : List Nat) (args : List AV) (H : Heap) : acall cfg (n + 1) ns 97 args H = callV cfg n 97 args H := acall_callV F.inl97
/- 98 internal/strconv.bool2[int] -/
def D.h98 : Hint := { nt := 4, keep := [0, 2], raws := [], cals := [], rs := [] }
noncomputable def D.s98 : S := 
  (.seq
    (.sets [(2, (.val (.int .i64 0)))])
    (.seq
      (.cond (.loc 0)
        (.seq
          (.sets [(2, (.val (.int .i64 1)))])
          .ret)
        .skip)
      (.seq
        (.sets [(2, (.val (.int .i64 0)))])
        .ret)))
theorem D.ok98 : digFn cfg.P cfg.inl D.h98 1 F.c98 = some D.s98 := by rw [cfgP, cfgIn]; kernel_rfl
theorem D.v98 {n : Nat} {a0 : AV} {v : AV} (h : finV cfg.P [.tmp 2] (sexec cfg (acall cfg n) D.s98 [] (a0 :: .undef :: .undef :: pad 1) []) = some v) : vcall cfg (acall cfg n) 98 [a0] = some v := vcall_dig (acall_val cfg n) (cfgPrim _ _ (by decide)) F.fn98 F.ok98 rfl rfl rfl D.ok98 (by rw [env0S_pad (m := 3) (by simp) (by decide)]; exact h)
@[simp] theorem D.a98 (n : Nat) (ns : List Nat) (args : List AV) (H : Heap) : acall cfg (n + 1) ns 98 args H = callV cfg n 98 args H := acall_callV F.inl98
/- 99 internal/strconv.isPowerOfTwo -/
def D.h99 : Hint := { nt := 8, keep := [0, 2], raws := [], cals := [], rs := [] }
noncomputable def D.s99 : S := 
  (.seq
    (.sets [(2, (.val (.bool false)))])
    (.seq
      (.sets [(2, (.bin .eql 3 (.bin .and 3 (.loc 0) (.bin .sub 3 (.loc 0) (.val (.int .i64 1)))) (.val (.int .i64 0))))])
      .ret))
theorem D.ok99 : digFn cfg.P cfg.inl D.h99 1 F.c99 = some D.s99 := by rw [cfgP, cfgIn]; kernel_rfl
theorem D.v99 {n : Nat} {a0 : AV} {v : AV} (h : finV cfg.P [.tmp 2] (sexec cfg (acall cfg n) D.s99 [] (a0 :: .undef :: .undef :: pad 5) []) = some v) : vcall cfg (acall cfg n) 99 [a0] = some v := vcall_dig (acall_val cfg n) (cfgPrim _ _ (by decide)) F.fn99 F.ok99 rfl rfl rfl D.ok99 (by rw [env0S_pad (m := 3) (by simp) (by decide)]; exact h)
@[simp] theorem D.a99 (n : Nat) (ns : List Nat) (args : List AV) (H : Heap) : acall cfg (n + 1) ns 99 args H = callV cfg n 99 args H := acall_callV F.inl99
/- 102 internal/bytealg.hashStr[string] -/
def D.h102 : Hint := { nt := 39, keep := [0, 2, 3, 4, 5, 6, 7, 8], raws := [], cals := [], rs := [[2, 3, 6, 7, 8], [0, 2, 3, 5]] }
noncomputable def D.b102_1 : S := 
  (.seq
    (.cond (.bin .gtr 3 (.loc 8) (.val (.int .i64 0)))
      .skip
      (.exit 2))
    (.seq
      (.block 3
        (.seq
          (.cond (.bin .neq 3 (.bin .and 3 (.loc 8) (.val (.int .i64 1))) (.val (.int .i64 0)))
            (.sets [(6, (.bin .mul 114 (.loc 6) (.loc 7)))])
            .skip)
          (.sets [(7, (.bin .mul 114 (.loc 7) (.loc 7)))])))
      (.sets [(8, (.bin .shr 3 (.loc 8) (.val (.int .u64 1))))])))
theorem D.e102_1 {C : Cfg} {call : Callee'} {ns : List Nat} {L : Env} {H : Heap} : sexec C call D.b102_1 ns L H = sexec C call
  (.seq
    (.cond (.bin .gtr 3 (.loc 8) (.val (.int .i64 0)))
      .skip
      (.exit 2))
    (.seq
      (.block 3
        (.seq
          (.cond (.bin .neq 3 (.bin .and 3 (.loc 8) (.val (.int .i64 1))) (.val (.int .i64 0)))
            (.sets [(6, (.bin .mul 114 (.loc 6) (.loc 7)))])
            .skip)
          (.sets [(7, (.bin .mul 114 (.loc 7) (.loc 7)))])))
      (.sets [(8, (.bin .shr 3 (.loc 8) (.val (.int .u64 1))))]))) ns L H := rfl
noncomputable def D.b102_0 : S := 
  (.seq
    (.cond (.bin .lss 3 (.loc 5) (.len 9 (.loc 0)))
      .skip
      (.exit 0))
    (.seq
      (.block 1
        (.sets [(4, (.bin .add 114 (.bin .mul 114 (.loc 4) (.val (.int .u32 16777619))) (.conv 5 114 (.ix 9 (.loc 0) (.loc 5)))))]))
      (.sets [(5, (.bin .add 3 (.loc 5) (.val (.int .i64 1))))])))
theorem D.e102_0 {C : Cfg} {call : Callee'} {ns : List Nat} {L : Env} {H : Heap} : sexec C call D.b102_0 ns L H = sexec C call
  (.seq
    (.cond (.bin .lss 3 (.loc 5) (.len 9 (.loc 0)))
      .skip
      (.exit 0))
    (.seq
      (.block 1
        (.sets [(4, (.bin .add 114 (.bin .mul 114 (.loc 4) (.val (.int .u32 16777619))) (.conv 5 114 (.ix 9 (.loc 0) (.loc 5)))))]))
      (.sets [(5, (.bin .add 3 (.loc 5) (.val (.int .i64 1))))]))) ns L H := rfl
noncomputable def D.s102 : S := 
  (.seq
    (.sets [(3, (.val (.int .u32 0))), (2, (.val (.int .u32 0)))])
    (.seq
      (.sets [(4, (.val (.int .u32 0)))])
      (.seq
        (.seq
          (.sets [(5, (.val (.int .i64 0)))])
          (.block 0
            (.loop [2, 3, 6, 7, 8] D.b102_0)))
        (.seq
          (.sets [(7, (.val (.int .u32 16777619))), (6, (.val (.int .u32 1)))])
          (.seq
            (.seq
              (.sets [(8, (.len 9 (.loc 0)))])
              (.block 2
                (.loop [0, 2, 3, 5] D.b102_1)))
            (.seq
              (.sets [(3, (.loc 6)), (2, (.loc 4))])
              .ret))))))
theorem D.ok102 : digFn cfg.P cfg.inl D.h102 1 F.c102 = some D.s102 := by rw [cfgP, cfgIn]; kernel_rfl
theorem D.v102 {n : Nat} {a0 : AV} {v : AV} (h : finV cfg.P [.tmp 2, .tmp 3] (sexec cfg (acall cfg n) D.s102 [] (a0 :: .undef :: .undef :: .undef :: .undef :: .undef :: .undef :: .undef :: .undef :: pad 30) []) = some v) : vcall cfg (acall cfg n) 102 [a0] = some v := vcall_dig (acall_val cfg n) (cfgPrim _ _ (by decide)) F.fn102 F.ok102 rfl rfl rfl D.ok102 (by rw [env0S_pad (m := 9) (by simp) (by decide)]; exact h)
@[simp] theorem D.a102 (n : Nat) (ns : List Nat) (args : List AV) (H : Heap) : acall cfg (n + 1) ns 102 args H = callV cfg n 102 args H := acall_callV F.inl102
end Go.Proofs.YtopedkngffaplaaDoor
end STrydDig
