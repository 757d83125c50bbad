/- The primes of the curves, each by a primitive root. -/
import Derived.Test.YteknjhamekpfjaaNumP
namespace Go.Num
set_option maxRecDepth 100000
theorem allc {x : Nat} {l : List Nat} (h : Pri x) (k : ∀ y ∈ l, Pri y) : ∀ y ∈ x :: l, Pri y := fun y hy => by
  rcases List.mem_cons.1 hy with rfl | q
  · exact h
  · exact k y q
theorem alln : ∀ y ∈ ([] : List Nat), Pri y := fun y hy => by cases hy
theorem cer3 : cert 3 2 [2] = true := by decide +kernel
theorem pri3 : Pri 3 := cert_pri (allc pri2 alln) cer3
theorem cer5 : cert 5 2 [2, 2] = true := by decide +kernel
theorem pri5 : Pri 5 := cert_pri (allc pri2 (allc pri2 alln)) cer5
theorem cer7 : cert 7 3 [2, 3] = true := by decide +kernel
theorem pri7 : Pri 7 := cert_pri (allc pri2 (allc pri3 alln)) cer7
theorem cer11 : cert 11 2 [2, 5] = true := by decide +kernel
theorem pri11 : Pri 11 := cert_pri (allc pri2 (allc pri5 alln)) cer11
theorem cer13 : cert 13 2 [2, 2, 3] = true := by decide +kernel
theorem pri13 : Pri 13 := cert_pri (allc pri2 (allc pri2 (allc pri3 alln))) cer13
theorem cer17 : cert 17 3 [2, 2, 2, 2] = true := by decide +kernel
theorem pri17 : Pri 17 := cert_pri (allc pri2 (allc pri2 (allc pri2 (allc pri2 alln)))) cer17
theorem cer19 : cert 19 2 [2, 3, 3] = true := by decide +kernel
theorem pri19 : Pri 19 := cert_pri (allc pri2 (allc pri3 (allc pri3 alln))) cer19
theorem cer23 : cert 23 5 [2, 11] = true := by decide +kernel
theorem pri23 : Pri 23 := cert_pri (allc pri2 (allc pri11 alln)) cer23
theorem cer29 : cert 29 2 [2, 2, 7] = true := by decide +kernel
theorem pri29 : Pri 29 := cert_pri (allc pri2 (allc pri2 (allc pri7 alln))) cer29
theorem cer31 : cert 31 3 [2, 3, 5] = true := by decide +kernel
theorem pri31 : Pri 31 := cert_pri (allc pri2 (allc pri3 (allc pri5 alln))) cer31
theorem cer37 : cert 37 2 [2, 2, 3, 3] = true := by decide +kernel
theorem pri37 : Pri 37 := cert_pri (allc pri2 (allc pri2 (allc pri3 (allc pri3 alln)))) cer37
theorem cer41 : cert 41 6 [2, 2, 2, 5] = true := by decide +kernel
theorem pri41 : Pri 41 := cert_pri (allc pri2 (allc pri2 (allc pri2 (allc pri5 alln)))) cer41
theorem cer43 : cert 43 3 [2, 3, 7] = true := by decide +kernel
theorem pri43 : Pri 43 := cert_pri (allc pri2 (allc pri3 (allc pri7 alln))) cer43
theorem cer47 : cert 47 5 [2, 23] = true := by decide +kernel
theorem pri47 : Pri 47 := cert_pri (allc pri2 (allc pri23 alln)) cer47
theorem cer53 : cert 53 2 [2, 2, 13] = true := by decide +kernel
theorem pri53 : Pri 53 := cert_pri (allc pri2 (allc pri2 (allc pri13 alln))) cer53
theorem cer59 : cert 59 2 [2, 29] = true := by decide +kernel
theorem pri59 : Pri 59 := cert_pri (allc pri2 (allc pri29 alln)) cer59
theorem cer67 : cert 67 2 [2, 3, 11] = true := by decide +kernel
theorem pri67 : Pri 67 := cert_pri (allc pri2 (allc pri3 (allc pri11 alln))) cer67
theorem cer71 : cert 71 7 [2, 5, 7] = true := by decide +kernel
theorem pri71 : Pri 71 := cert_pri (allc pri2 (allc pri5 (allc pri7 alln))) cer71
theorem cer73 : cert 73 5 [2, 2, 2, 3, 3] = true := by decide +kernel
theorem pri73 : Pri 73 := cert_pri (allc pri2 (allc pri2 (allc pri2 (allc pri3 (allc pri3 alln))))) cer73
theorem cer79 : cert 79 3 [2, 3, 13] = true := by decide +kernel
theorem pri79 : Pri 79 := cert_pri (allc pri2 (allc pri3 (allc pri13 alln))) cer79
theorem cer83 : cert 83 2 [2, 41] = true := by decide +kernel
theorem pri83 : Pri 83 := cert_pri (allc pri2 (allc pri41 alln)) cer83
theorem cer97 : cert 97 5 [2, 2, 2, 2, 2, 3] = true := by decide +kernel
theorem pri97 : Pri 97 := cert_pri (allc pri2 (allc pri2 (allc pri2 (allc pri2 (allc pri2 (allc pri3 alln)))))) cer97
theorem cer103 : cert 103 5 [2, 3, 17] = true := by decide +kernel
theorem pri103 : Pri 103 := cert_pri (allc pri2 (allc pri3 (allc pri17 alln))) cer103
theorem cer107 : cert 107 2 [2, 53] = true := by decide +kernel
theorem pri107 : Pri 107 := cert_pri (allc pri2 (allc pri53 alln)) cer107
theorem cer113 : cert 113 3 [2, 2, 2, 2, 7] = true := by decide +kernel
theorem pri113 : Pri 113 := cert_pri (allc pri2 (allc pri2 (allc pri2 (allc pri2 (allc pri7 alln))))) cer113
theorem cer127 : cert 127 3 [2, 3, 3, 7] = true := by decide +kernel
theorem pri127 : Pri 127 := cert_pri (allc pri2 (allc pri3 (allc pri3 (allc pri7 alln)))) cer127
theorem cer131 : cert 131 2 [2, 5, 13] = true := by decide +kernel
theorem pri131 : Pri 131 := cert_pri (allc pri2 (allc pri5 (allc pri13 alln))) cer131
theorem cer151 : cert 151 6 [2, 3, 5, 5] = true := by decide +kernel
theorem pri151 : Pri 151 := cert_pri (allc pri2 (allc pri3 (allc pri5 (allc pri5 alln)))) cer151
theorem cer157 : cert 157 5 [2, 2, 3, 13] = true := by decide +kernel
theorem pri157 : Pri 157 := cert_pri (allc pri2 (allc pri2 (allc pri3 (allc pri13 alln)))) cer157
theorem cer173 : cert 173 2 [2, 2, 43] = true := by decide +kernel
theorem pri173 : Pri 173 := cert_pri (allc pri2 (allc pri2 (allc pri43 alln))) cer173
theorem cer181 : cert 181 2 [2, 2, 3, 3, 5] = true := by decide +kernel
theorem pri181 : Pri 181 := cert_pri (allc pri2 (allc pri2 (allc pri3 (allc pri3 (allc pri5 alln))))) cer181
theorem cer197 : cert 197 2 [2, 2, 7, 7] = true := by decide +kernel
theorem pri197 : Pri 197 := cert_pri (allc pri2 (allc pri2 (allc pri7 (allc pri7 alln)))) cer197
theorem cer223 : cert 223 3 [2, 3, 37] = true := by decide +kernel
theorem pri223 : Pri 223 := cert_pri (allc pri2 (allc pri3 (allc pri37 alln))) cer223
theorem cer229 : cert 229 6 [2, 2, 3, 19] = true := by decide +kernel
theorem pri229 : Pri 229 := cert_pri (allc pri2 (allc pri2 (allc pri3 (allc pri19 alln)))) cer229
theorem cer239 : cert 239 7 [2, 7, 17] = true := by decide +kernel
theorem pri239 : Pri 239 := cert_pri (allc pri2 (allc pri7 (allc pri17 alln))) cer239
theorem cer241 : cert 241 7 [2, 2, 2, 2, 3, 5] = true := by decide +kernel
theorem pri241 : Pri 241 := cert_pri (allc pri2 (allc pri2 (allc pri2 (allc pri2 (allc pri3 (allc pri5 alln)))))) cer241
theorem cer257 : cert 257 3 [2, 2, 2, 2, 2, 2, 2, 2] = true := by decide +kernel
theorem pri257 : Pri 257 := cert_pri (allc pri2 (allc pri2 (allc pri2 (allc pri2 (allc pri2 (allc pri2 (allc pri2 (allc pri2 alln)))))))) cer257
theorem cer263 : cert 263 5 [2, 131] = true := by decide +kernel
theorem pri263 : Pri 263 := cert_pri (allc pri2 (allc pri131 alln)) cer263
theorem cer269 : cert 269 2 [2, 2, 67] = true := by decide +kernel
theorem pri269 : Pri 269 := cert_pri (allc pri2 (allc pri2 (allc pri67 alln))) cer269
theorem cer307 : cert 307 5 [2, 3, 3, 17] = true := by decide +kernel
theorem pri307 : Pri 307 := cert_pri (allc pri2 (allc pri3 (allc pri3 (allc pri17 alln)))) cer307
theorem cer311 : cert 311 17 [2, 5, 31] = true := by decide +kernel
theorem pri311 : Pri 311 := cert_pri (allc pri2 (allc pri5 (allc pri31 alln))) cer311
theorem cer313 : cert 313 10 [2, 2, 2, 3, 13] = true := by decide +kernel
theorem pri313 : Pri 313 := cert_pri (allc pri2 (allc pri2 (allc pri2 (allc pri3 (allc pri13 alln))))) cer313
theorem cer337 : cert 337 10 [2, 2, 2, 2, 3, 7] = true := by decide +kernel
theorem pri337 : Pri 337 := cert_pri (allc pri2 (allc pri2 (allc pri2 (allc pri2 (allc pri3 (allc pri7 alln)))))) cer337
theorem cer353 : cert 353 3 [2, 2, 2, 2, 2, 11] = true := by decide +kernel
theorem pri353 : Pri 353 := cert_pri (allc pri2 (allc pri2 (allc pri2 (allc pri2 (allc pri2 (allc pri11 alln)))))) cer353
theorem cer373 : cert 373 2 [2, 2, 3, 31] = true := by decide +kernel
theorem pri373 : Pri 373 := cert_pri (allc pri2 (allc pri2 (allc pri3 (allc pri31 alln)))) cer373
theorem cer419 : cert 419 2 [2, 11, 19] = true := by decide +kernel
theorem pri419 : Pri 419 := cert_pri (allc pri2 (allc pri11 (allc pri19 alln))) cer419
theorem cer479 : cert 479 13 [2, 239] = true := by decide +kernel
theorem pri479 : Pri 479 := cert_pri (allc pri2 (allc pri239 alln)) cer479
theorem cer487 : cert 487 3 [2, 3, 3, 3, 3, 3] = true := by decide +kernel
theorem pri487 : Pri 487 := cert_pri (allc pri2 (allc pri3 (allc pri3 (allc pri3 (allc pri3 (allc pri3 alln)))))) cer487
theorem cer641 : cert 641 3 [2, 2, 2, 2, 2, 2, 2, 5] = true := by decide +kernel
theorem pri641 : Pri 641 := cert_pri (allc pri2 (allc pri2 (allc pri2 (allc pri2 (allc pri2 (allc pri2 (allc pri2 (allc pri5 alln)))))))) cer641
theorem cer661 : cert 661 2 [2, 2, 3, 5, 11] = true := by decide +kernel
theorem pri661 : Pri 661 := cert_pri (allc pri2 (allc pri2 (allc pri3 (allc pri5 (allc pri11 alln))))) cer661
theorem cer727 : cert 727 5 [2, 3, 11, 11] = true := by decide +kernel
theorem pri727 : Pri 727 := cert_pri (allc pri2 (allc pri3 (allc pri11 (allc pri11 alln)))) cer727
theorem cer757 : cert 757 2 [2, 2, 3, 3, 3, 7] = true := by decide +kernel
theorem pri757 : Pri 757 := cert_pri (allc pri2 (allc pri2 (allc pri3 (allc pri3 (allc pri3 (allc pri7 alln)))))) cer757
theorem cer919 : cert 919 7 [2, 3, 3, 3, 17] = true := by decide +kernel
theorem pri919 : Pri 919 := cert_pri (allc pri2 (allc pri3 (allc pri3 (allc pri3 (allc pri17 alln))))) cer919
theorem cer991 : cert 991 6 [2, 3, 3, 5, 11] = true := by decide +kernel
theorem pri991 : Pri 991 := cert_pri (allc pri2 (allc pri3 (allc pri3 (allc pri5 (allc pri11 alln))))) cer991
theorem cer1087 : cert 1087 3 [2, 3, 181] = true := by decide +kernel
theorem pri1087 : Pri 1087 := cert_pri (allc pri2 (allc pri3 (allc pri181 alln))) cer1087
theorem cer1201 : cert 1201 11 [2, 2, 2, 2, 3, 5, 5] = true := by decide +kernel
theorem pri1201 : Pri 1201 := cert_pri (allc pri2 (allc pri2 (allc pri2 (allc pri2 (allc pri3 (allc pri5 (allc pri5 alln))))))) cer1201
theorem cer1297 : cert 1297 10 [2, 2, 2, 2, 3, 3, 3, 3] = true := by decide +kernel
theorem pri1297 : Pri 1297 := cert_pri (allc pri2 (allc pri2 (allc pri2 (allc pri2 (allc pri3 (allc pri3 (allc pri3 (allc pri3 alln)))))))) cer1297
theorem cer1361 : cert 1361 3 [2, 2, 2, 2, 5, 17] = true := by decide +kernel
theorem pri1361 : Pri 1361 := cert_pri (allc pri2 (allc pri2 (allc pri2 (allc pri2 (allc pri5 (allc pri17 alln)))))) cer1361
theorem cer1511 : cert 1511 11 [2, 5, 151] = true := by decide +kernel
theorem pri1511 : Pri 1511 := cert_pri (allc pri2 (allc pri5 (allc pri151 alln))) cer1511
theorem cer1531 : cert 1531 2 [2, 3, 3, 5, 17] = true := by decide +kernel
theorem pri1531 : Pri 1531 := cert_pri (allc pri2 (allc pri3 (allc pri3 (allc pri5 (allc pri17 alln))))) cer1531
theorem cer1723 : cert 1723 3 [2, 3, 7, 41] = true := by decide +kernel
theorem pri1723 : Pri 1723 := cert_pri (allc pri2 (allc pri3 (allc pri7 (allc pri41 alln)))) cer1723
theorem cer2411 : cert 2411 6 [2, 5, 241] = true := by decide +kernel
theorem pri2411 : Pri 2411 := cert_pri (allc pri2 (allc pri5 (allc pri241 alln))) cer2411
theorem cer2437 : cert 2437 2 [2, 2, 3, 7, 29] = true := by decide +kernel
theorem pri2437 : Pri 2437 := cert_pri (allc pri2 (allc pri2 (allc pri3 (allc pri7 (allc pri29 alln))))) cer2437
theorem cer2551 : cert 2551 6 [2, 3, 5, 5, 17] = true := by decide +kernel
theorem pri2551 : Pri 2551 := cert_pri (allc pri2 (allc pri3 (allc pri5 (allc pri5 (allc pri17 alln))))) cer2551
theorem cer2851 : cert 2851 2 [2, 3, 5, 5, 19] = true := by decide +kernel
theorem pri2851 : Pri 2851 := cert_pri (allc pri2 (allc pri3 (allc pri5 (allc pri5 (allc pri19 alln))))) cer2851
theorem cer2939 : cert 2939 2 [2, 13, 113] = true := by decide +kernel
theorem pri2939 : Pri 2939 := cert_pri (allc pri2 (allc pri13 (allc pri113 alln))) cer2939
theorem cer3023 : cert 3023 5 [2, 1511] = true := by decide +kernel
theorem pri3023 : Pri 3023 := cert_pri (allc pri2 (allc pri1511 alln)) cer3023
theorem cer3407 : cert 3407 5 [2, 13, 131] = true := by decide +kernel
theorem pri3407 : Pri 3407 := cert_pri (allc pri2 (allc pri13 (allc pri131 alln))) cer3407
theorem cer3677 : cert 3677 2 [2, 2, 919] = true := by decide +kernel
theorem pri3677 : Pri 3677 := cert_pri (allc pri2 (allc pri2 (allc pri919 alln))) cer3677
theorem cer3727 : cert 3727 3 [2, 3, 3, 3, 3, 23] = true := by decide +kernel
theorem pri3727 : Pri 3727 := cert_pri (allc pri2 (allc pri3 (allc pri3 (allc pri3 (allc pri3 (allc pri23 alln)))))) cer3727
theorem cer3769 : cert 3769 7 [2, 2, 2, 3, 157] = true := by decide +kernel
theorem pri3769 : Pri 3769 := cert_pri (allc pri2 (allc pri2 (allc pri2 (allc pri3 (allc pri157 alln))))) cer3769
theorem cer3797 : cert 3797 2 [2, 2, 13, 73] = true := by decide +kernel
theorem pri3797 : Pri 3797 := cert_pri (allc pri2 (allc pri2 (allc pri13 (allc pri73 alln)))) cer3797
theorem cer4153 : cert 4153 5 [2, 2, 2, 3, 173] = true := by decide +kernel
theorem pri4153 : Pri 4153 := cert_pri (allc pri2 (allc pri2 (allc pri2 (allc pri3 (allc pri173 alln))))) cer4153
theorem cer4349 : cert 4349 2 [2, 2, 1087] = true := by decide +kernel
theorem pri4349 : Pri 4349 := cert_pri (allc pri2 (allc pri2 (allc pri1087 alln))) cer4349
theorem cer5879 : cert 5879 11 [2, 2939] = true := by decide +kernel
theorem pri5879 : Pri 5879 := cert_pri (allc pri2 (allc pri2939 alln)) cer5879
theorem cer9463 : cert 9463 3 [2, 3, 19, 83] = true := by decide +kernel
theorem pri9463 : Pri 9463 := cert_pri (allc pri2 (allc pri3 (allc pri19 (allc pri83 alln)))) cer9463
theorem cer9547 : cert 9547 2 [2, 3, 37, 43] = true := by decide +kernel
theorem pri9547 : Pri 9547 := cert_pri (allc pri2 (allc pri3 (allc pri37 (allc pri43 alln)))) cer9547
theorem cer16879 : cert 16879 3 [2, 3, 29, 97] = true := by decide +kernel
theorem pri16879 : Pri 16879 := cert_pri (allc pri2 (allc pri3 (allc pri29 (allc pri97 alln)))) cer16879
theorem cer17231 : cert 17231 13 [2, 5, 1723] = true := by decide +kernel
theorem pri17231 : Pri 17231 := cert_pri (allc pri2 (allc pri5 (allc pri1723 alln))) cer17231
theorem cer17449 : cert 17449 14 [2, 2, 2, 3, 727] = true := by decide +kernel
theorem pri17449 : Pri 17449 := cert_pri (allc pri2 (allc pri2 (allc pri2 (allc pri3 (allc pri727 alln))))) cer17449
theorem cer18169 : cert 18169 11 [2, 2, 2, 3, 757] = true := by decide +kernel
theorem pri18169 : Pri 18169 := cert_pri (allc pri2 (allc pri2 (allc pri2 (allc pri3 (allc pri757 alln))))) cer18169
theorem cer22111 : cert 22111 6 [2, 3, 5, 11, 67] = true := by decide +kernel
theorem pri22111 : Pri 22111 := cert_pri (allc pri2 (allc pri3 (allc pri5 (allc pri11 (allc pri67 alln))))) cer22111
theorem cer30703 : cert 30703 3 [2, 3, 7, 17, 43] = true := by decide +kernel
theorem pri30703 : Pri 30703 := cert_pri (allc pri2 (allc pri3 (allc pri7 (allc pri17 (allc pri43 alln))))) cer30703
theorem cer32573 : cert 32573 2 [2, 2, 17, 479] = true := by decide +kernel
theorem pri32573 : Pri 32573 := cert_pri (allc pri2 (allc pri2 (allc pri17 (allc pri479 alln)))) cer32573
theorem cer34123 : cert 34123 2 [2, 3, 11, 11, 47] = true := by decide +kernel
theorem pri34123 : Pri 34123 := cert_pri (allc pri2 (allc pri3 (allc pri11 (allc pri11 (allc pri47 alln))))) cer34123
theorem cer37853 : cert 37853 2 [2, 2, 9463] = true := by decide +kernel
theorem pri37853 : Pri 37853 := cert_pri (allc pri2 (allc pri2 (allc pri9463 alln))) cer37853
theorem cer38189 : cert 38189 2 [2, 2, 9547] = true := by decide +kernel
theorem pri38189 : Pri 38189 := cert_pri (allc pri2 (allc pri2 (allc pri9547 alln))) cer38189
theorem cer41081 : cert 41081 3 [2, 2, 2, 5, 13, 79] = true := by decide +kernel
theorem pri41081 : Pri 41081 := cert_pri (allc pri2 (allc pri2 (allc pri2 (allc pri5 (allc pri13 (allc pri79 alln)))))) cer41081
theorem cer57467 : cert 57467 2 [2, 59, 487] = true := by decide +kernel
theorem pri57467 : Pri 57467 := cert_pri (allc pri2 (allc pri59 (allc pri487 alln))) cer57467
theorem cer65147 : cert 65147 2 [2, 32573] = true := by decide +kernel
theorem pri65147 : Pri 65147 := cert_pri (allc pri2 (allc pri32573 alln)) cer65147
theorem cer65537 : cert 65537 3 [2, 2, 2, 2, 2, 2, 2, 2, 2, 2, 2, 2, 2, 2, 2, 2] = true := by decide +kernel
theorem pri65537 : Pri 65537 := cert_pri (allc pri2 (allc pri2 (allc pri2 (allc pri2 (allc pri2 (allc pri2 (allc pri2 (allc pri2 (allc pri2 (allc pri2 (allc pri2 (allc pri2 (allc pri2 (allc pri2 (allc pri2 (allc pri2 alln)))))))))))))))) cer65537
theorem cer75707 : cert 75707 2 [2, 37853] = true := by decide +kernel
theorem pri75707 : Pri 75707 := cert_pri (allc pri2 (allc pri37853 alln)) cer75707
theorem cer78283 : cert 78283 3 [2, 3, 3, 4349] = true := by decide +kernel
theorem pri78283 : Pri 78283 := cert_pri (allc pri2 (allc pri3 (allc pri3 (allc pri4349 alln)))) cer78283
theorem cer82163 : cert 82163 2 [2, 41081] = true := by decide +kernel
theorem pri82163 : Pri 82163 := cert_pri (allc pri2 (allc pri41081 alln)) cer82163
theorem cer104471 : cert 104471 11 [2, 5, 31, 337] = true := by decide +kernel
theorem pri104471 : Pri 104471 := cert_pri (allc pri2 (allc pri5 (allc pri31 (allc pri337 alln)))) cer104471
theorem cer126241 : cert 126241 7 [2, 2, 2, 2, 2, 3, 5, 263] = true := by decide +kernel
theorem pri126241 : Pri 126241 := cert_pri (allc pri2 (allc pri2 (allc pri2 (allc pri2 (allc pri2 (allc pri3 (allc pri5 (allc pri263 alln)))))))) cer126241
theorem cer132049 : cert 132049 26 [2, 2, 2, 2, 3, 3, 7, 131] = true := by decide +kernel
theorem pri132049 : Pri 132049 := cert_pri (allc pri2 (allc pri2 (allc pri2 (allc pri2 (allc pri3 (allc pri3 (allc pri7 (allc pri131 alln)))))))) cer132049
theorem cer132667 : cert 132667 5 [2, 3, 22111] = true := by decide +kernel
theorem pri132667 : Pri 132667 := cert_pri (allc pri2 (allc pri3 (allc pri22111 alln))) cer132667
theorem cer137849 : cert 137849 3 [2, 2, 2, 17231] = true := by decide +kernel
theorem pri137849 : Pri 137849 := cert_pri (allc pri2 (allc pri2 (allc pri2 (allc pri17231 alln)))) cer137849
theorem cer155317 : cert 155317 5 [2, 2, 3, 7, 43, 43] = true := by decide +kernel
theorem pri155317 : Pri 155317 := cert_pri (allc pri2 (allc pri2 (allc pri3 (allc pri7 (allc pri43 (allc pri43 alln)))))) cer155317
theorem cer409477 : cert 409477 2 [2, 2, 3, 34123] = true := by decide +kernel
theorem pri409477 : Pri 409477 := cert_pri (allc pri2 (allc pri2 (allc pri3 (allc pri34123 alln)))) cer409477
theorem cer430751 : cert 430751 17 [2, 5, 5, 5, 1723] = true := by decide +kernel
theorem pri430751 : Pri 430751 := cert_pri (allc pri2 (allc pri5 (allc pri5 (allc pri5 (allc pri1723 alln))))) cer430751
theorem cer490463 : cert 490463 14 [2, 7, 53, 661] = true := by decide +kernel
theorem pri490463 : Pri 490463 := cert_pri (allc pri2 (allc pri7 (allc pri53 (allc pri661 alln)))) cer490463
theorem cer531581 : cert 531581 2 [2, 2, 5, 7, 3797] = true := by decide +kernel
theorem pri531581 : Pri 531581 := cert_pri (allc pri2 (allc pri2 (allc pri5 (allc pri7 (allc pri3797 alln))))) cer531581
theorem cer569003 : cert 569003 2 [2, 7, 97, 419] = true := by decide +kernel
theorem pri569003 : Pri 569003 := cert_pri (allc pri2 (allc pri7 (allc pri97 (allc pri419 alln)))) cer569003
theorem cer704251 : cert 704251 2 [2, 3, 3, 5, 5, 5, 313] = true := by decide +kernel
theorem pri704251 : Pri 704251 := cert_pri (allc pri2 (allc pri3 (allc pri3 (allc pri5 (allc pri5 (allc pri5 (allc pri313 alln))))))) cer704251
theorem cer1224481 : cert 1224481 13 [2, 2, 2, 2, 2, 3, 5, 2551] = true := by decide +kernel
theorem pri1224481 : Pri 1224481 := cert_pri (allc pri2 (allc pri2 (allc pri2 (allc pri2 (allc pri2 (allc pri3 (allc pri5 (allc pri2551 alln)))))))) cer1224481
theorem cer1923133 : cert 1923133 2 [2, 2, 3, 43, 3727] = true := by decide +kernel
theorem pri1923133 : Pri 1923133 := cert_pri (allc pri2 (allc pri2 (allc pri3 (allc pri43 (allc pri3727 alln))))) cer1923133
theorem cer3969899 : cert 3969899 2 [2, 19, 104471] = true := by decide +kernel
theorem pri3969899 : Pri 3969899 := cert_pri (allc pri2 (allc pri19 (allc pri104471 alln))) cer3969899
theorem cer6700417 : cert 6700417 5 [2, 2, 2, 2, 2, 2, 2, 3, 17449] = true := by decide +kernel
theorem pri6700417 : Pri 6700417 := cert_pri (allc pri2 (allc pri2 (allc pri2 (allc pri2 (allc pri2 (allc pri2 (allc pri2 (allc pri3 (allc pri17449 alln))))))))) cer6700417
theorem cer8574133 : cert 8574133 2 [2, 2, 3, 7, 103, 991] = true := by decide +kernel
theorem pri8574133 : Pri 8574133 := cert_pri (allc pri2 (allc pri2 (allc pri3 (allc pri7 (allc pri103 (allc pri991 alln)))))) cer8574133
theorem cer9350987 : cert 9350987 2 [2, 17, 229, 1201] = true := by decide +kernel
theorem pri9350987 : Pri 9350987 := cert_pri (allc pri2 (allc pri17 (allc pri229 (allc pri1201 alln)))) cer9350987
theorem cer14741173 : cert 14741173 2 [2, 2, 3, 3, 409477] = true := by decide +kernel
theorem pri14741173 : Pri 14741173 := cert_pri (allc pri2 (allc pri2 (allc pri3 (allc pri3 (allc pri409477 alln))))) cer14741173
theorem cer58964693 : cert 58964693 2 [2, 2, 14741173] = true := by decide +kernel
theorem pri58964693 : Pri 58964693 := cert_pri (allc pri2 (allc pri2 (allc pri14741173 alln))) cer58964693
theorem cer187019741 : cert 187019741 2 [2, 2, 5, 9350987] = true := by decide +kernel
theorem pri187019741 : Pri 187019741 := cert_pri (allc pri2 (allc pri2 (allc pri5 (allc pri9350987 alln)))) cer187019741
theorem cer191039911 : cert 191039911 3 [2, 3, 5, 41, 155317] = true := by decide +kernel
theorem pri191039911 : Pri 191039911 := cert_pri (allc pri2 (allc pri3 (allc pri5 (allc pri41 (allc pri155317 alln))))) cer191039911
theorem cer204061199 : cert 204061199 11 [2, 11, 23, 107, 3769] = true := by decide +kernel
theorem pri204061199 : Pri 204061199 := cert_pri (allc pri2 (allc pri11 (allc pri23 (allc pri107 (allc pri3769 alln))))) cer204061199
theorem cer292386187 : cert 292386187 2 [2, 3, 3, 3, 3, 307, 5879] = true := by decide +kernel
theorem pri292386187 : Pri 292386187 := cert_pri (allc pri2 (allc pri3 (allc pri3 (allc pri3 (allc pri3 (allc pri307 (allc pri5879 alln))))))) cer292386187
theorem cer311245691 : cert 311245691 2 [2, 5, 7, 17, 29, 29, 311] = true := by decide +kernel
theorem pri311245691 : Pri 311245691 := cert_pri (allc pri2 (allc pri5 (allc pri7 (allc pri17 (allc pri29 (allc pri29 (allc pri311 alln))))))) cer311245691
theorem cer622491383 : cert 622491383 5 [2, 311245691] = true := by decide +kernel
theorem pri622491383 : Pri 622491383 := cert_pri (allc pri2 (allc pri311245691 alln)) cer622491383
theorem cer2773320623 : cert 2773320623 5 [2, 2437, 569003] = true := by decide +kernel
theorem pri2773320623 : Pri 2773320623 := cert_pri (allc pri2 (allc pri2437 (allc pri569003 alln))) cer2773320623
theorem cer34282281433 : cert 34282281433 17 [2, 2, 2, 3, 7, 204061199] = true := by decide +kernel
theorem pri34282281433 : Pri 34282281433 := cert_pri (allc pri2 (allc pri2 (allc pri2 (allc pri3 (allc pri7 (allc pri204061199 alln)))))) cer34282281433
theorem cer66417393611 : cert 66417393611 6 [2, 5, 53, 173, 197, 3677] = true := by decide +kernel
theorem pri66417393611 : Pri 66417393611 := cert_pri (allc pri2 (allc pri5 (allc pri53 (allc pri173 (allc pri197 (allc pri3677 alln)))))) cer66417393611
theorem cer72106336199 : cert 72106336199 7 [2, 13, 2773320623] = true := by decide +kernel
theorem pri72106336199 : Pri 72106336199 := cert_pri (allc pri2 (allc pri13 (allc pri2773320623 alln))) cer72106336199
theorem cer213441916511 : cert 213441916511 13 [2, 5, 73, 292386187] = true := by decide +kernel
theorem pri213441916511 : Pri 213441916511 := cert_pri (allc pri2 (allc pri5 (allc pri73 (allc pri292386187 alln)))) cer213441916511
theorem cer1002328039319 : cert 1002328039319 19 [2, 126241, 3969899] = true := by decide +kernel
theorem pri1002328039319 : Pri 1002328039319 := cert_pri (allc pri2 (allc pri126241 (allc pri3969899 alln))) cer1002328039319
theorem cer11290956913871 : cert 11290956913871 13 [2, 5, 17, 66417393611] = true := by decide +kernel
theorem pri11290956913871 : Pri 11290956913871 := cert_pri (allc pri2 (allc pri5 (allc pri17 (allc pri66417393611 alln)))) cer11290956913871
theorem cer1257559732178653 : cert 1257559732178653 2 [2, 2, 3, 7, 23, 531581, 1224481] = true := by decide +kernel
theorem pri1257559732178653 : Pri 1257559732178653 := cert_pri (allc pri2 (allc pri2 (allc pri3 (allc pri7 (allc pri23 (allc pri531581 (allc pri1224481 alln))))))) cer1257559732178653
theorem cer1919519569386763 : cert 1919519569386763 2 [2, 3, 7, 19, 47, 47, 127, 8574133] = true := by decide +kernel
theorem pri1919519569386763 : Pri 1919519569386763 := cert_pri (allc pri2 (allc pri3 (allc pri7 (allc pri19 (allc pri47 (allc pri47 (allc pri127 (allc pri8574133 alln)))))))) cer1919519569386763
theorem cer31757755568855353 : cert 31757755568855353 10 [2, 2, 2, 3, 31, 107, 223, 4153, 430751] = true := by decide +kernel
theorem pri31757755568855353 : Pri 31757755568855353 := cert_pri (allc pri2 (allc pri2 (allc pri2 (allc pri3 (allc pri31 (allc pri107 (allc pri223 (allc pri4153 (allc pri430751 alln))))))))) cer31757755568855353
theorem cer46076956964474543 : cert 46076956964474543 5 [2, 23, 18169, 78283, 704251] = true := by decide +kernel
theorem pri46076956964474543 : Pri 46076956964474543 := cert_pri (allc pri2 (allc pri23 (allc pri18169 (allc pri78283 (allc pri704251 alln))))) cer46076956964474543
theorem cer208150935158385979 : cert 208150935158385979 2 [2, 3, 11, 43, 127, 3023, 191039911] = true := by decide +kernel
theorem pri208150935158385979 : Pri 208150935158385979 := cert_pri (allc pri2 (allc pri3 (allc pri11 (allc pri43 (allc pri127 (allc pri3023 (allc pri191039911 alln))))))) cer208150935158385979
theorem cer4434155615661930479 : cert 4434155615661930479 17 [2, 41, 43, 1257559732178653] = true := by decide +kernel
theorem pri4434155615661930479 : Pri 4434155615661930479 := cert_pri (allc pri2 (allc pri41 (allc pri43 (allc pri1257559732178653 alln)))) cer4434155615661930479
theorem cer3044861653679985063343 : cert 3044861653679985063343 5 [2, 3, 11, 30703, 82163, 132667, 137849] = true := by decide +kernel
theorem pri3044861653679985063343 : Pri 3044861653679985063343 := cert_pri (allc pri2 (allc pri3 (allc pri11 (allc pri30703 (allc pri82163 (allc pri132667 (allc pri137849 alln))))))) cer3044861653679985063343
theorem cer172054593956031949258510691 : cert 172054593956031949258510691 2 [2, 5, 1361, 2851, 4434155615661930479] = true := by decide +kernel
theorem pri172054593956031949258510691 : Pri 172054593956031949258510691 := cert_pri (allc pri2 (allc pri5 (allc pri1361 (allc pri2851 (allc pri4434155615661930479 alln))))) cer172054593956031949258510691
theorem cer2624747550333869278416773953 : cert 2624747550333869278416773953 7 [2, 2, 2, 2, 2, 2, 3, 3, 1297, 16879, 208150935158385979] = true := by decide +kernel
theorem pri2624747550333869278416773953 : Pri 2624747550333869278416773953 := cert_pri (allc pri2 (allc pri2 (allc pri2 (allc pri2 (allc pri2 (allc pri2 (allc pri3 (allc pri3 (allc pri1297 (allc pri16879 (allc pri208150935158385979 alln))))))))))) cer2624747550333869278416773953
theorem cer198211423230930754013084525763697 : cert 198211423230930754013084525763697 5 [2, 2, 2, 2, 3, 23, 58964693, 3044861653679985063343] = true := by decide +kernel
theorem pri198211423230930754013084525763697 : Pri 198211423230930754013084525763697 := cert_pri (allc pri2 (allc pri2 (allc pri2 (allc pri2 (allc pri3 (allc pri23 (allc pri58964693 (allc pri3044861653679985063343 alln)))))))) cer198211423230930754013084525763697
theorem cer75445702479781427272750846543864801 : cert 75445702479781427272750846543864801 7 [2, 2, 2, 2, 2, 3, 3, 5, 5, 75707, 72106336199, 1919519569386763] = true := by decide +kernel
theorem pri75445702479781427272750846543864801 : Pri 75445702479781427272750846543864801 := cert_pri (allc pri2 (allc pri2 (allc pri2 (allc pri2 (allc pri2 (allc pri3 (allc pri3 (allc pri5 (allc pri5 (allc pri75707 (allc pri72106336199 (allc pri1919519569386763 alln)))))))))))) cer75445702479781427272750846543864801
theorem cer19757330305831588566944191468367130476339 : cert 19757330305831588566944191468367130476339 2 [2, 269, 213441916511, 172054593956031949258510691] = true := by decide +kernel
theorem pri19757330305831588566944191468367130476339 : Pri 19757330305831588566944191468367130476339 := cert_pri (allc pri2 (allc pri269 (allc pri213441916511 (allc pri172054593956031949258510691 alln)))) cer19757330305831588566944191468367130476339
theorem cer276602624281642239937218680557139826668747 : cert 276602624281642239937218680557139826668747 2 [2, 7, 19757330305831588566944191468367130476339] = true := by decide +kernel
theorem pri276602624281642239937218680557139826668747 : Pri 276602624281642239937218680557139826668747 := cert_pri (allc pri2 (allc pri7 (allc pri19757330305831588566944191468367130476339 alln))) cer276602624281642239937218680557139826668747
theorem cer774023187263532362759620327192479577272145303 : cert 774023187263532362759620327192479577272145303 3 [2, 3, 3, 2411, 34282281433, 11290956913871, 46076956964474543] = true := by decide +kernel
theorem pri774023187263532362759620327192479577272145303 : Pri 774023187263532362759620327192479577272145303 := cert_pri (allc pri2 (allc pri3 (allc pri3 (allc pri2411 (allc pri34282281433 (allc pri11290956913871 (allc pri46076956964474543 alln))))))) cer774023187263532362759620327192479577272145303
theorem cer835945042244614951780389953367877943453916927241 : cert 835945042244614951780389953367877943453916927241 11 [2, 2, 2, 3, 3, 3, 5, 774023187263532362759620327192479577272145303] = true := by decide +kernel
theorem pri835945042244614951780389953367877943453916927241 : Pri 835945042244614951780389953367877943453916927241 := cert_pri (allc pri2 (allc pri2 (allc pri2 (allc pri3 (allc pri3 (allc pri3 (allc pri5 (allc pri774023187263532362759620327192479577272145303 alln)))))))) cer835945042244614951780389953367877943453916927241
theorem cer74058212732561358302231226437062788676166966415465897661863160754340907 : cert 74058212732561358302231226437062788676166966415465897661863160754340907 2 [2, 3, 353, 57467, 132049, 1923133, 31757755568855353, 75445702479781427272750846543864801] = true := by decide +kernel
theorem pri74058212732561358302231226437062788676166966415465897661863160754340907 : Pri 74058212732561358302231226437062788676166966415465897661863160754340907 := cert_pri (allc pri2 (allc pri3 (allc pri353 (allc pri57467 (allc pri132049 (allc pri1923133 (allc pri31757755568855353 (allc pri75445702479781427272750846543864801 alln)))))))) cer74058212732561358302231226437062788676166966415465897661863160754340907
theorem cer7237005577332262213973186563042994240857116359379907606001950938285454250989 : cert 7237005577332262213973186563042994240857116359379907606001950938285454250989 2 [2, 2, 3, 11, 198211423230930754013084525763697, 276602624281642239937218680557139826668747] = true := by decide +kernel
theorem pri7237005577332262213973186563042994240857116359379907606001950938285454250989 : Pri 7237005577332262213973186563042994240857116359379907606001950938285454250989 := cert_pri (allc pri2 (allc pri2 (allc pri3 (allc pri11 (allc pri198211423230930754013084525763697 (allc pri276602624281642239937218680557139826668747 alln)))))) cer7237005577332262213973186563042994240857116359379907606001950938285454250989
theorem cer57896044618658097711785492504343953926634992332820282019728792003956564819949 : cert 57896044618658097711785492504343953926634992332820282019728792003956564819949 2 [2, 2, 3, 65147, 74058212732561358302231226437062788676166966415465897661863160754340907] = true := by decide +kernel
theorem pri57896044618658097711785492504343953926634992332820282019728792003956564819949 : Pri 57896044618658097711785492504343953926634992332820282019728792003956564819949 := cert_pri (allc pri2 (allc pri2 (allc pri3 (allc pri65147 (allc pri74058212732561358302231226437062788676166966415465897661863160754340907 alln))))) cer57896044618658097711785492504343953926634992332820282019728792003956564819949
theorem cer115792089210356248762697446949407573529996955224135760342422259061068512044369 : cert 115792089210356248762697446949407573529996955224135760342422259061068512044369 7 [2, 2, 2, 2, 3, 71, 131, 373, 3407, 17449, 38189, 187019741, 622491383, 1002328039319, 2624747550333869278416773953] = true := by decide +kernel
theorem pri115792089210356248762697446949407573529996955224135760342422259061068512044369 : Pri 115792089210356248762697446949407573529996955224135760342422259061068512044369 := cert_pri (allc pri2 (allc pri2 (allc pri2 (allc pri2 (allc pri3 (allc pri71 (allc pri131 (allc pri373 (allc pri3407 (allc pri17449 (allc pri38189 (allc pri187019741 (allc pri622491383 (allc pri1002328039319 (allc pri2624747550333869278416773953 alln))))))))))))))) cer115792089210356248762697446949407573529996955224135760342422259061068512044369
theorem cer115792089210356248762697446949407573530086143415290314195533631308867097853951 : cert 115792089210356248762697446949407573530086143415290314195533631308867097853951 6 [2, 3, 5, 5, 17, 257, 641, 1531, 65537, 490463, 6700417, 835945042244614951780389953367877943453916927241] = true := by decide +kernel
theorem pri115792089210356248762697446949407573530086143415290314195533631308867097853951 : Pri 115792089210356248762697446949407573530086143415290314195533631308867097853951 := cert_pri (allc pri2 (allc pri3 (allc pri5 (allc pri5 (allc pri17 (allc pri257 (allc pri641 (allc pri1531 (allc pri65537 (allc pri490463 (allc pri6700417 (allc pri835945042244614951780389953367877943453916927241 alln)))))))))))) cer115792089210356248762697446949407573530086143415290314195533631308867097853951
theorem unitsP25519 : ∀ a, a % 57896044618658097711785492504343953926634992332820282019728792003956564819949 ≠ 0 → a ^ (57896044618658097711785492504343953926634992332820282019728792003956564819949 - 1) % 57896044618658097711785492504343953926634992332820282019728792003956564819949 = 1 := cert_units (allc pri2 (allc pri2 (allc pri3 (allc pri65147 (allc pri74058212732561358302231226437062788676166966415465897661863160754340907 alln))))) cer57896044618658097711785492504343953926634992332820282019728792003956564819949
theorem unitsL25519 : ∀ a, a % 7237005577332262213973186563042994240857116359379907606001950938285454250989 ≠ 0 → a ^ (7237005577332262213973186563042994240857116359379907606001950938285454250989 - 1) % 7237005577332262213973186563042994240857116359379907606001950938285454250989 = 1 := cert_units (allc pri2 (allc pri2 (allc pri3 (allc pri11 (allc pri198211423230930754013084525763697 (allc pri276602624281642239937218680557139826668747 alln)))))) cer7237005577332262213973186563042994240857116359379907606001950938285454250989
theorem unitsP256 : ∀ a, a % 115792089210356248762697446949407573530086143415290314195533631308867097853951 ≠ 0 → a ^ (115792089210356248762697446949407573530086143415290314195533631308867097853951 - 1) % 115792089210356248762697446949407573530086143415290314195533631308867097853951 = 1 := cert_units (allc pri2 (allc pri3 (allc pri5 (allc pri5 (allc pri17 (allc pri257 (allc pri641 (allc pri1531 (allc pri65537 (allc pri490463 (allc pri6700417 (allc pri835945042244614951780389953367877943453916927241 alln)))))))))))) cer115792089210356248762697446949407573530086143415290314195533631308867097853951
theorem unitsN256 : ∀ a, a % 115792089210356248762697446949407573529996955224135760342422259061068512044369 ≠ 0 → a ^ (115792089210356248762697446949407573529996955224135760342422259061068512044369 - 1) % 115792089210356248762697446949407573529996955224135760342422259061068512044369 = 1 := cert_units (allc pri2 (allc pri2 (allc pri2 (allc pri2 (allc pri3 (allc pri71 (allc pri131 (allc pri373 (allc pri3407 (allc pri17449 (allc pri38189 (allc pri187019741 (allc pri622491383 (allc pri1002328039319 (allc pri2624747550333869278416773953 alln))))))))))))))) cer115792089210356248762697446949407573529996955224135760342422259061068512044369
end Go.Num
