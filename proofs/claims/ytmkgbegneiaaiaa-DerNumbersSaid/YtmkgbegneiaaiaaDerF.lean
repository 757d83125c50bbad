/- Walks over der: the laws DerShort and DerNone. -/
import Derived.Test.YtmkgbegneiaaiaaDerD
namespace Go.Proofs.Ytmkgbegneiaaiaa
open Go.Eng
set_option maxHeartbeats 1000000
set_option linter.unusedVariables false
variable {P : Program} {G : Nat → AV}

theorem u8_eq {a : UInt8} {n : Nat} (h : a.toNat = n) (hn : n < 256) : UInt8.ofNat n = a := by
  apply UInt8.toNat_inj.1
  rw [UInt8.toNat_ofNat', h]; omega

/-- An element that was got is, put again, what was got. -/
theorem put_get {l : List UInt8} {h n : Nat} (hg : getS l = some (h, n)) : h + n ≤ l.length ∧ putA (l.getD 0 0) ((l.drop h).take n) = bs .no (l.take (h + n)) := by
  unfold getS at hg
  cases hn : getN l with
  | none => rw [hn] at hg; cases hg
  | some p =>
    obtain ⟨h', n'⟩ := p
    rw [hn] at hg
    simp only at hg
    split at hg
    · rename_i hle
      cases hg
      refine ⟨hle, ?_⟩
      have hlen : ((l.drop h).take n).length = n := by simp; omega
      unfold getN at hn
      split at hn
      · rename_i a b r
        split at hn
        · cases hn
        · split at hn
          · rename_i c r' hb
            split at hn
            · cases hn
            · rename_i hc
              cases hn
              have hc' := c.toNat_lt
              rw [putA, if_pos (by rw [hlen]; omega), putS, if_neg (by rw [hlen]; omega), if_pos (by rw [hlen]; omega), hlen, u8_eq rfl (by omega)]
              have e : b = 129 := by rw [← u8_eq hb (by omega)]; rfl
              rw [e, show 3 + c.toNat = c.toNat + 1 + 1 + 1 from by omega]
              rfl
          · rename_i c d r' hb
            split at hn
            · cases hn
            · rename_i hc
              cases hn
              have hc' := c.toNat_lt
              have hd' := d.toNat_lt
              rw [putA, if_pos (by rw [hlen]; omega), putS, if_neg (by rw [hlen]; omega), if_neg (by rw [hlen]; omega), if_pos (by rw [hlen]; omega), hlen]
              have e : b = 130 := by rw [← u8_eq hb (by omega)]; rfl
              have e1 : UInt8.ofNat ((c.toNat * 256 + d.toNat) / 256) = c := by rw [show (c.toNat * 256 + d.toNat) / 256 = c.toNat from by omega]; exact u8_eq rfl (by omega)
              have e2 : UInt8.ofNat (c.toNat * 256 + d.toNat) = d := by
                apply UInt8.toNat_inj.1
                rw [UInt8.toNat_ofNat']; omega
              rw [e1, e2, e, show 4 + (c.toNat * 256 + d.toNat) = (c.toNat * 256 + d.toNat) + 1 + 1 + 1 + 1 from by omega]
              rfl
          · split at hn
            · rename_i hb
              cases hn
              rw [putA, if_pos (by rw [hlen]; omega), putS, if_pos (by rw [hlen]; omega), hlen, u8_eq rfl (by omega), show 2 + b.toNat = b.toNat + 1 + 1 from by omega]
              rfl
            · cases hn
      · cases hn
    · cases hg

theorem dershort_vc (hS : SoundOk P G) (hGet : GetOk P G) (hPut : PutOk P G) (app : App) (l : List UInt8) (happ : app = .nil → l = []) (hl : l.length ≤ 9223372036854775807) : vc P G c5 (Ret [.t 2] (.bool true)) (argFr 0 [bs app l]) [] := by
  conv => whnf
  refine CallGoal.pure hS ?_
  conv => whnf
  refine bcase_mk (fun h => ?_) (fun h => ?_)
  · conv => whnf
    exact ⟨.inl rfl, .drop ⟨rfl, rfl⟩⟩
  have h5 : l.length ≤ 5000 := by simp [lssB_eq] at h; omega
  conv => whnf
  refine CallGoal.pure (hGet app l happ (by omega)) ?_
  unfold getA
  cases hg : getS l with
  | none =>
    conv => whnf
    exact ⟨.inl rfl, .drop ⟨rfl, rfl⟩⟩
  | some p =>
    obtain ⟨h0, n⟩ := p
    obtain ⟨hle, hput⟩ := put_get hg
    have e1 : (!lssB ((List.map b8 l).length : Int) ((List.map b8 (l.drop (h0 + n))).length : Int)) = true := by rw [lssB_eq]; simp
    have e2 : IntKind.i64.wrap (((List.map b8 l).length : Int) - ((List.map b8 (l.drop (h0 + n))).length : Int)) = ((h0 + n : Nat) : Int) := by
      rw [wr64 (by simp; omega) (by simp; omega)]; simp; omega
    conv => whnf
    rw [e1]
    conv => whnf
    refine SliceGoal.b8 0 (h0 + n) rfl e2 (by omega) hle ?_
    conv => whnf
    refine StrGoal.b8 ?_
    conv => whnf
    have hc := hPut (l.getD 0 0) .full [(.no, (l.drop h0).take n)] (by simp; omega) (by simp)
    rw [show ((([(App.no, (l.drop h0).take n)] : List (App × List UInt8)).map (·.2)).flatten) = (l.drop h0).take n from by simp, hput] at hc
    refine CallGoal.pure hc ?_
    conv => whnf
    refine StrGoal.b8 ?_
    conv => whnf
    refine ⟨.inl rfl, .drop ⟨?_, rfl⟩⟩
    show AV.bool (_ == _) = _
    simp

/-! ### A reader that is none -/
theorem next0_vc (tag : UInt8) : vc P G c23 (Ret [.t 4] (.bool false)) (argFr 0 [.v (.pointer none), u8 tag]) [] := by
  conv => whnf
  exact ⟨.inl rfl, .drop ⟨rfl, rfl⟩⟩
theorem fail0_vc : vc P G c30 (Ret [] (.tup [])) (argFr 0 [.v (.pointer none)]) [] := by
  conv => whnf
  exact ⟨.inr rfl, .drop ⟨rfl, rfl⟩⟩
theorem take0_vc (tag : UInt8) (h1 : Ans P G 23 [.v (.pointer none), u8 tag] (.bool false)) (h2 : Ans P G 30 [.v (.pointer none)] (.tup [])) : vc P G c24 (Ret [.t 4] (bs .nil [])) (argFr 0 [.v (.pointer none), u8 tag]) [] := by
  conv => whnf
  refine CallGoal.pure h1 ?_
  conv => whnf
  refine CallGoal.pure h2 ?_
  conv => whnf
  exact ⟨.inl rfl, .drop ⟨rfl, rfl⟩⟩
theorem in0_vc (tag : UInt8) (h1 : Ans P G 24 [.v (.pointer none), u8 tag] (bs .nil [])) : vc P G c25 (Ret [.t 4] (.ptr [bs .nil [], .bool true])) (argFr 0 [.v (.pointer none), u8 tag]) [] := by
  conv => whnf
  refine CallGoal.pure h1 ?_
  conv => whnf
  exact ⟨.inl rfl, .drop ⟨rfl, rfl⟩⟩
theorem done0_vc : vc P G c22 (Ret [.t 2] (.bool false)) (argFr 0 [.v (.pointer none)]) [] := by
  conv => whnf
  exact ⟨.inl rfl, .drop ⟨rfl, rfl⟩⟩
theorem done1_vc : vc P G c22 (Ret [.t 2] (.bool false)) (argFr 0 [.ptr [bs .nil [], .bool true]]) [] := by
  conv => whnf
  exact ⟨.inl rfl, .drop ⟨rfl, rfl⟩⟩
theorem done2_vc : vc P G c22 (Ret [.t 2] (.bool true)) (argFr 0 [.ptr [bs .nil [], .bool false]]) [] := by
  conv => whnf
  exact ⟨.inl rfl, .drop ⟨rfl, rfl⟩⟩
theorem next1_vc (tag : UInt8) : vc P G c23 (Ret [.t 4] (.bool false)) (argFr 0 [.ptr [bs .nil [], .bool true], u8 tag]) [] := by
  conv => whnf
  exact ⟨.inl rfl, .drop ⟨rfl, rfl⟩⟩
theorem from0_vc : vc P G c21 (Ret [.t 2] (.ptr [bs .nil [], .bool false])) (argFr 0 [bs .nil []]) [] := by
  conv => whnf
  exact ⟨.inl rfl, .drop ⟨rfl, rfl⟩⟩
theorem dernone_vc (tag : UInt8) (hS : SoundOk P G) (i0 : Ans P G 25 [.v (.pointer none), u8 tag] (.ptr [bs .nil [], .bool true])) (n0 : Ans P G 23 [.v (.pointer none), u8 tag] (.bool false)) (t0 : Ans P G 24 [.v (.pointer none), u8 tag] (bs .nil []))
    (d0 : Ans P G 22 [.v (.pointer none)] (.bool false)) (d1 : Ans P G 22 [.ptr [bs .nil [], .bool true]] (.bool false)) (d2 : Ans P G 22 [.ptr [bs .nil [], .bool false]] (.bool true)) (n1 : Ans P G 23 [.ptr [bs .nil [], .bool true], u8 tag] (.bool false))
    (f0 : Ans P G 21 [bs .nil []] (.ptr [bs .nil [], .bool false])) : vc P G c8 (Ret [.t 2] (.bool true)) (argFr 0 [u8 tag]) [] := by
  conv => whnf
  refine CallGoal.pure hS ?_
  conv => whnf
  refine CallGoal.pure i0 ?_
  conv => whnf
  refine CallGoal.pure n0 ?_
  conv => whnf
  refine CallGoal.pure t0 ?_
  conv => whnf
  refine CallGoal.pure d0 ?_
  conv => whnf
  refine CallGoal.pure d1 ?_
  conv => whnf
  refine CallGoal.pure n1 ?_
  conv => whnf
  refine CallGoal.pure f0 ?_
  conv => whnf
  refine CallGoal.pure d2 ?_
  conv => whnf
  exact ⟨.inl rfl, .drop ⟨rfl, rfl⟩⟩
end Go.Proofs.Ytmkgbegneiaaiaa
