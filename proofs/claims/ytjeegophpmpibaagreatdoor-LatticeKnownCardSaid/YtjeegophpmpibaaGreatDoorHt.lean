/- The M-code that is printed is the program's own. No condition. -/
import Derived.Test.YtjeegophpmpibaaGreatDoorMc2
import Derived.Test.YtjeegophpmpibaaGreatDoorProg
set_option linter.unusedVariables false
namespace Go.Proofs.YtjeegophpmpibaaGreatDoor.Pv
open Go
set_option maxRecDepth 1000000
theorem ite_or {α : Type} {c : Prop} [Decidable c] {A B : Option α} {x : α} (h : (if c then A else B) = some x) : A = some x ∨ B = some x := by
  by_cases hc : c
  · rw [if_pos hc] at h; exact .inl h
  · rw [if_neg hc] at h; exact .inr h
theorem leafH {f k : Nat} {v : MC × Nat × List RV} {x : MC × Nat × List RV} (hk : mfOf Tryz.prog k = some v) (h : (if f = k then some v else none) = some x) : mfOf Tryz.prog f = some x := by
  by_cases hc : f = k
  · rw [if_pos hc] at h; subst hc; rw [hk]; exact h
  · rw [if_neg hc] at h; cases h
theorem hf3 : mfOf Tryz.prog 3 = some (m3, 92, rs3) := by kernel_rfl
theorem hf4 : mfOf Tryz.prog 4 = some (m4, 15, rs4) := by kernel_rfl
theorem hf5 : mfOf Tryz.prog 5 = some (m5, 10, rs5) := by kernel_rfl
theorem hf6 : mfOf Tryz.prog 6 = some (m6, 14, rs6) := by kernel_rfl
theorem hf7 : mfOf Tryz.prog 7 = some (m7, 16, rs7) := by kernel_rfl
theorem hf8 : mfOf Tryz.prog 8 = some (m8, 14, rs8) := by kernel_rfl
theorem hf9 : mfOf Tryz.prog 9 = some (m9, 96, rs9) := by kernel_rfl
theorem hf10 : mfOf Tryz.prog 10 = some (m10, 16, rs10) := by kernel_rfl
theorem hf11 : mfOf Tryz.prog 11 = some (m11, 15, rs11) := by kernel_rfl
theorem hf12 : mfOf Tryz.prog 12 = some (m12, 15, rs12) := by kernel_rfl
theorem hf13 : mfOf Tryz.prog 13 = some (m13, 62, rs13) := by kernel_rfl
theorem hf14 : mfOf Tryz.prog 14 = some (m14, 11, rs14) := by kernel_rfl
theorem hf15 : mfOf Tryz.prog 15 = some (m15, 19, rs15) := by kernel_rfl
theorem hf16 : mfOf Tryz.prog 16 = some (m16, 51, rs16) := by kernel_rfl
theorem hf17 : mfOf Tryz.prog 17 = some (m17, 61, rs17) := by kernel_rfl
theorem hf18 : mfOf Tryz.prog 18 = some (m18, 40, rs18) := by kernel_rfl
theorem hf20 : mfOf Tryz.prog 20 = some (m20, 8, rs20) := by kernel_rfl
theorem hf22 : mfOf Tryz.prog 22 = some (m22, 27, rs22) := by kernel_rfl
theorem hf23 : mfOf Tryz.prog 23 = some (m23, 2, rs23) := by kernel_rfl
theorem hf24 : mfOf Tryz.prog 24 = some (m24, 25, rs24) := by kernel_rfl
theorem hf25 : mfOf Tryz.prog 25 = some (m25, 20, rs25) := by kernel_rfl
theorem hf26 : mfOf Tryz.prog 26 = some (m26, 27, rs26) := by kernel_rfl
theorem hf27 : mfOf Tryz.prog 27 = some (m27, 26, rs27) := by kernel_rfl
theorem hf28 : mfOf Tryz.prog 28 = some (m28, 27, rs28) := by kernel_rfl
theorem hf29 : mfOf Tryz.prog 29 = some (m29, 27, rs29) := by kernel_rfl
theorem hf30 : mfOf Tryz.prog 30 = some (m30, 11, rs30) := by kernel_rfl
theorem hf31 : mfOf Tryz.prog 31 = some (m31, 109, rs31) := by kernel_rfl
theorem hf32 : mfOf Tryz.prog 32 = some (m32, 27, rs32) := by kernel_rfl
theorem hf33 : mfOf Tryz.prog 33 = some (m33, 2, rs33) := by kernel_rfl
theorem hf34 : mfOf Tryz.prog 34 = some (m34, 37, rs34) := by kernel_rfl
theorem hf36 : mfOf Tryz.prog 36 = some (m36, 43, rs36) := by kernel_rfl
theorem hf37 : mfOf Tryz.prog 37 = some (m37, 38, rs37) := by kernel_rfl
theorem hf38 : mfOf Tryz.prog 38 = some (m38, 5, rs38) := by kernel_rfl
theorem hf41 : mfOf Tryz.prog 41 = some (m41, 52, rs41) := by kernel_rfl
theorem hf44 : mfOf Tryz.prog 44 = some (m44, 9, rs44) := by kernel_rfl
theorem hf45 : mfOf Tryz.prog 45 = some (m45, 94, rs45) := by kernel_rfl
theorem hf46 : mfOf Tryz.prog 46 = some (m46, 56, rs46) := by kernel_rfl
theorem hf47 : mfOf Tryz.prog 47 = some (m47, 64, rs47) := by kernel_rfl
theorem hf48 : mfOf Tryz.prog 48 = some (m48, 149, rs48) := by kernel_rfl
theorem hf49 : mfOf Tryz.prog 49 = some (m49, 10, rs49) := by kernel_rfl
theorem hf50 : mfOf Tryz.prog 50 = some (m50, 59, rs50) := by kernel_rfl
theorem hf51 : mfOf Tryz.prog 51 = some (m51, 17, rs51) := by kernel_rfl
theorem hf52 : mfOf Tryz.prog 52 = some (m52, 52, rs52) := by kernel_rfl
theorem hf53 : mfOf Tryz.prog 53 = some (m53, 66, rs53) := by kernel_rfl
theorem hf54 : mfOf Tryz.prog 54 = some (m54, 82, rs54) := by kernel_rfl
theorem hf55 : mfOf Tryz.prog 55 = some (m55, 17, rs55) := by kernel_rfl
theorem hf58 : mfOf Tryz.prog 58 = some (m58, 25, rs58) := by kernel_rfl
theorem hf59 : mfOf Tryz.prog 59 = some (m59, 8, rs59) := by kernel_rfl
theorem hf60 : mfOf Tryz.prog 60 = some (m60, 8, rs60) := by kernel_rfl
theorem hf61 : mfOf Tryz.prog 61 = some (m61, 8, rs61) := by kernel_rfl
theorem hf62 : mfOf Tryz.prog 62 = some (m62, 8, rs62) := by kernel_rfl
theorem hf63 : mfOf Tryz.prog 63 = some (m63, 8, rs63) := by kernel_rfl
theorem hf64 : mfOf Tryz.prog 64 = some (m64, 128, rs64) := by kernel_rfl
theorem hf65 : mfOf Tryz.prog 65 = some (m65, 72, rs65) := by kernel_rfl
theorem hf66 : mfOf Tryz.prog 66 = some (m66, 103, rs66) := by kernel_rfl
theorem hf67 : mfOf Tryz.prog 67 = some (m67, 50, rs67) := by kernel_rfl
theorem hf68 : mfOf Tryz.prog 68 = some (m68, 2, rs68) := by kernel_rfl
theorem hf69 : mfOf Tryz.prog 69 = some (m69, 9, rs69) := by kernel_rfl
theorem hf70 : mfOf Tryz.prog 70 = some (m70, 169, rs70) := by kernel_rfl
theorem hf73 : mfOf Tryz.prog 73 = some (m73, 10, rs73) := by kernel_rfl
theorem hf74 : mfOf Tryz.prog 74 = some (m74, 13, rs74) := by kernel_rfl
theorem hf75 : mfOf Tryz.prog 75 = some (m75, 78, rs75) := by kernel_rfl
theorem hf76 : mfOf Tryz.prog 76 = some (m76, 26, rs76) := by kernel_rfl
theorem hf79 : mfOf Tryz.prog 79 = some (m79, 52, rs79) := by kernel_rfl
theorem hf80 : mfOf Tryz.prog 80 = some (m80, 26, rs80) := by kernel_rfl
theorem hf85 : mfOf Tryz.prog 85 = some (m85, 45, rs85) := by kernel_rfl
theorem hf86 : mfOf Tryz.prog 86 = some (m86, 14, rs86) := by kernel_rfl
theorem hf87 : mfOf Tryz.prog 87 = some (m87, 29, rs87) := by kernel_rfl
theorem hf89 : mfOf Tryz.prog 89 = some (m89, 37, rs89) := by kernel_rfl
theorem hf90 : mfOf Tryz.prog 90 = some (m90, 36, rs90) := by kernel_rfl
theorem hf91 : mfOf Tryz.prog 91 = some (m91, 62, rs91) := by kernel_rfl
theorem hf92 : mfOf Tryz.prog 92 = some (m92, 36, rs92) := by kernel_rfl
theorem hf93 : mfOf Tryz.prog 93 = some (m93, 11, rs93) := by kernel_rfl
theorem hf94 : mfOf Tryz.prog 94 = some (m94, 61, rs94) := by kernel_rfl
theorem hf97 : mfOf Tryz.prog 97 = some (m97, 83, rs97) := by kernel_rfl
theorem hf98 : mfOf Tryz.prog 98 = some (m98, 50, rs98) := by kernel_rfl
theorem hf101 : mfOf Tryz.prog 101 = some (m101, 29, rs101) := by kernel_rfl
theorem hf102 : mfOf Tryz.prog 102 = some (m102, 43, rs102) := by kernel_rfl
theorem hf107 : mfOf Tryz.prog 107 = some (m107, 26, rs107) := by kernel_rfl
theorem hf108 : mfOf Tryz.prog 108 = some (m108, 18, rs108) := by kernel_rfl
theorem hf109 : mfOf Tryz.prog 109 = some (m109, 11, rs109) := by kernel_rfl
theorem hf110 : mfOf Tryz.prog 110 = some (m110, 39, rs110) := by kernel_rfl
theorem hf111 : mfOf Tryz.prog 111 = some (m111, 17, rs111) := by kernel_rfl
theorem hf112 : mfOf Tryz.prog 112 = some (m112, 36, rs112) := by kernel_rfl
theorem hf113 : mfOf Tryz.prog 113 = some (m113, 39, rs113) := by kernel_rfl
theorem hf115 : mfOf Tryz.prog 115 = some (m115, 39, rs115) := by kernel_rfl
theorem hf121 : mfOf Tryz.prog 121 = some (m121, 17, rs121) := by kernel_rfl
theorem hf123 : mfOf Tryz.prog 123 = some (m123, 36, rs123) := by kernel_rfl
theorem hf124 : mfOf Tryz.prog 124 = some (m124, 25, rs124) := by kernel_rfl
theorem hf125 : mfOf Tryz.prog 125 = some (m125, 25, rs125) := by kernel_rfl
theorem hf126 : mfOf Tryz.prog 126 = some (m126, 27, rs126) := by kernel_rfl
theorem hf127 : mfOf Tryz.prog 127 = some (m127, 36, rs127) := by kernel_rfl
theorem hf128 : mfOf Tryz.prog 128 = some (m128, 27, rs128) := by kernel_rfl
theorem hf129 : mfOf Tryz.prog 129 = some (m129, 134, rs129) := by kernel_rfl
theorem hf130 : mfOf Tryz.prog 130 = some (m130, 8, rs130) := by kernel_rfl
theorem hf132 : mfOf Tryz.prog 132 = some (m132, 25, rs132) := by kernel_rfl
theorem hf133 : mfOf Tryz.prog 133 = some (m133, 14, rs133) := by kernel_rfl
theorem hf136 : mfOf Tryz.prog 136 = some (m136, 23, rs136) := by kernel_rfl
theorem hf137 : mfOf Tryz.prog 137 = some (m137, 20, rs137) := by kernel_rfl
theorem hf145 : mfOf Tryz.prog 145 = some (m145, 6, rs145) := by kernel_rfl
theorem hf146 : mfOf Tryz.prog 146 = some (m146, 27, rs146) := by kernel_rfl
theorem hf147 : mfOf Tryz.prog 147 = some (m147, 27, rs147) := by kernel_rfl
theorem hf148 : mfOf Tryz.prog 148 = some (m148, 49, rs148) := by kernel_rfl
theorem hf157 : mfOf Tryz.prog 157 = some (m157, 25, rs157) := by kernel_rfl
theorem hf159 : mfOf Tryz.prog 159 = some (m159, 9, rs159) := by kernel_rfl
theorem hf161 : mfOf Tryz.prog 161 = some (m161, 44, rs161) := by kernel_rfl
theorem hf162 : mfOf Tryz.prog 162 = some (m162, 66, rs162) := by kernel_rfl
theorem hf173 : mfOf Tryz.prog 173 = some (m173, 63, rs173) := by kernel_rfl
theorem hf178 : mfOf Tryz.prog 178 = some (m178, 53, rs178) := by kernel_rfl
theorem hmix : Tryz.prog.follows .mixedOrders = true := by kernel_rfl
theorem tab_ok (f : Nat) (m : MC) (nt : Nat) (rs : List RV) (h : tab f = some (m, nt, rs)) : mfOf Tryz.prog f = some (m, nt, rs) := ((ite_or h).elim (fun h => ((ite_or h).elim (fun h => ((ite_or h).elim (fun h => ((ite_or h).elim (fun h => ((ite_or h).elim (fun h => ((ite_or h).elim (fun h => (leafH hf3 h)) (fun h => ((ite_or h).elim (fun h => (leafH hf4 h)) (fun h => (leafH hf5 h)))))) (fun h => ((ite_or h).elim (fun h => (leafH hf6 h)) (fun h => ((ite_or h).elim (fun h => (leafH hf7 h)) (fun h => (leafH hf8 h)))))))) (fun h => ((ite_or h).elim (fun h => ((ite_or h).elim (fun h => (leafH hf9 h)) (fun h => ((ite_or h).elim (fun h => (leafH hf10 h)) (fun h => (leafH hf11 h)))))) (fun h => ((ite_or h).elim (fun h => ((ite_or h).elim (fun h => (leafH hf12 h)) (fun h => (leafH hf13 h)))) (fun h => ((ite_or h).elim (fun h => (leafH hf14 h)) (fun h => (leafH hf15 h)))))))))) (fun h => ((ite_or h).elim (fun h => ((ite_or h).elim (fun h => ((ite_or h).elim (fun h => (leafH hf16 h)) (fun h => ((ite_or h).elim (fun h => (leafH hf17 h)) (fun h => (leafH hf18 h)))))) (fun h => ((ite_or h).elim (fun h => ((ite_or h).elim (fun h => (leafH hf20 h)) (fun h => (leafH hf22 h)))) (fun h => ((ite_or h).elim (fun h => (leafH hf23 h)) (fun h => (leafH hf24 h)))))))) (fun h => ((ite_or h).elim (fun h => ((ite_or h).elim (fun h => (leafH hf25 h)) (fun h => ((ite_or h).elim (fun h => (leafH hf26 h)) (fun h => (leafH hf27 h)))))) (fun h => ((ite_or h).elim (fun h => ((ite_or h).elim (fun h => (leafH hf28 h)) (fun h => (leafH hf29 h)))) (fun h => ((ite_or h).elim (fun h => (leafH hf30 h)) (fun h => (leafH hf31 h)))))))))))) (fun h => ((ite_or h).elim (fun h => ((ite_or h).elim (fun h => ((ite_or h).elim (fun h => ((ite_or h).elim (fun h => (leafH hf32 h)) (fun h => ((ite_or h).elim (fun h => (leafH hf33 h)) (fun h => (leafH hf34 h)))))) (fun h => ((ite_or h).elim (fun h => (leafH hf36 h)) (fun h => ((ite_or h).elim (fun h => (leafH hf37 h)) (fun h => (leafH hf38 h)))))))) (fun h => ((ite_or h).elim (fun h => ((ite_or h).elim (fun h => (leafH hf41 h)) (fun h => ((ite_or h).elim (fun h => (leafH hf44 h)) (fun h => (leafH hf45 h)))))) (fun h => ((ite_or h).elim (fun h => ((ite_or h).elim (fun h => (leafH hf46 h)) (fun h => (leafH hf47 h)))) (fun h => ((ite_or h).elim (fun h => (leafH hf48 h)) (fun h => (leafH hf49 h)))))))))) (fun h => ((ite_or h).elim (fun h => ((ite_or h).elim (fun h => ((ite_or h).elim (fun h => (leafH hf50 h)) (fun h => ((ite_or h).elim (fun h => (leafH hf51 h)) (fun h => (leafH hf52 h)))))) (fun h => ((ite_or h).elim (fun h => ((ite_or h).elim (fun h => (leafH hf53 h)) (fun h => (leafH hf54 h)))) (fun h => ((ite_or h).elim (fun h => (leafH hf55 h)) (fun h => (leafH hf58 h)))))))) (fun h => ((ite_or h).elim (fun h => ((ite_or h).elim (fun h => (leafH hf59 h)) (fun h => ((ite_or h).elim (fun h => (leafH hf60 h)) (fun h => (leafH hf61 h)))))) (fun h => ((ite_or h).elim (fun h => ((ite_or h).elim (fun h => (leafH hf62 h)) (fun h => (leafH hf63 h)))) (fun h => ((ite_or h).elim (fun h => (leafH hf64 h)) (fun h => (leafH hf65 h)))))))))))))) (fun h => ((ite_or h).elim (fun h => ((ite_or h).elim (fun h => ((ite_or h).elim (fun h => ((ite_or h).elim (fun h => ((ite_or h).elim (fun h => (leafH hf66 h)) (fun h => ((ite_or h).elim (fun h => (leafH hf67 h)) (fun h => (leafH hf68 h)))))) (fun h => ((ite_or h).elim (fun h => (leafH hf69 h)) (fun h => ((ite_or h).elim (fun h => (leafH hf70 h)) (fun h => (leafH hf73 h)))))))) (fun h => ((ite_or h).elim (fun h => ((ite_or h).elim (fun h => (leafH hf74 h)) (fun h => ((ite_or h).elim (fun h => (leafH hf75 h)) (fun h => (leafH hf76 h)))))) (fun h => ((ite_or h).elim (fun h => ((ite_or h).elim (fun h => (leafH hf79 h)) (fun h => (leafH hf80 h)))) (fun h => ((ite_or h).elim (fun h => (leafH hf85 h)) (fun h => (leafH hf86 h)))))))))) (fun h => ((ite_or h).elim (fun h => ((ite_or h).elim (fun h => ((ite_or h).elim (fun h => (leafH hf87 h)) (fun h => ((ite_or h).elim (fun h => (leafH hf89 h)) (fun h => (leafH hf90 h)))))) (fun h => ((ite_or h).elim (fun h => ((ite_or h).elim (fun h => (leafH hf91 h)) (fun h => (leafH hf92 h)))) (fun h => ((ite_or h).elim (fun h => (leafH hf93 h)) (fun h => (leafH hf94 h)))))))) (fun h => ((ite_or h).elim (fun h => ((ite_or h).elim (fun h => (leafH hf97 h)) (fun h => ((ite_or h).elim (fun h => (leafH hf98 h)) (fun h => (leafH hf101 h)))))) (fun h => ((ite_or h).elim (fun h => ((ite_or h).elim (fun h => (leafH hf102 h)) (fun h => (leafH hf107 h)))) (fun h => ((ite_or h).elim (fun h => (leafH hf108 h)) (fun h => (leafH hf109 h)))))))))))) (fun h => ((ite_or h).elim (fun h => ((ite_or h).elim (fun h => ((ite_or h).elim (fun h => ((ite_or h).elim (fun h => (leafH hf110 h)) (fun h => ((ite_or h).elim (fun h => (leafH hf111 h)) (fun h => (leafH hf112 h)))))) (fun h => ((ite_or h).elim (fun h => ((ite_or h).elim (fun h => (leafH hf113 h)) (fun h => (leafH hf115 h)))) (fun h => ((ite_or h).elim (fun h => (leafH hf121 h)) (fun h => (leafH hf123 h)))))))) (fun h => ((ite_or h).elim (fun h => ((ite_or h).elim (fun h => (leafH hf124 h)) (fun h => ((ite_or h).elim (fun h => (leafH hf125 h)) (fun h => (leafH hf126 h)))))) (fun h => ((ite_or h).elim (fun h => ((ite_or h).elim (fun h => (leafH hf127 h)) (fun h => (leafH hf128 h)))) (fun h => ((ite_or h).elim (fun h => (leafH hf129 h)) (fun h => (leafH hf130 h)))))))))) (fun h => ((ite_or h).elim (fun h => ((ite_or h).elim (fun h => ((ite_or h).elim (fun h => (leafH hf132 h)) (fun h => ((ite_or h).elim (fun h => (leafH hf133 h)) (fun h => (leafH hf136 h)))))) (fun h => ((ite_or h).elim (fun h => ((ite_or h).elim (fun h => (leafH hf137 h)) (fun h => (leafH hf145 h)))) (fun h => ((ite_or h).elim (fun h => (leafH hf146 h)) (fun h => (leafH hf147 h)))))))) (fun h => ((ite_or h).elim (fun h => ((ite_or h).elim (fun h => (leafH hf148 h)) (fun h => ((ite_or h).elim (fun h => (leafH hf157 h)) (fun h => (leafH hf159 h)))))) (fun h => ((ite_or h).elim (fun h => ((ite_or h).elim (fun h => (leafH hf161 h)) (fun h => (leafH hf162 h)))) (fun h => ((ite_or h).elim (fun h => (leafH hf173 h)) (fun h => (leafH hf178 h)))))))))))))))
end Go.Proofs.YtjeegophpmpibaaGreatDoor.Pv
