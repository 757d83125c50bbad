/- Walks over der: the reference's Whole. -/
import Derived.Test.YtmkgbegneiaaiaaDerJ
namespace Go.Proofs.Ytmkgbegneiaaiaa
open Go.Eng
set_option maxHeartbeats 1000000
set_option linter.unusedVariables false
set_option linter.unusedSimpArgs false
variable {P : Program} {G : Nat → AV}

theorem putS_inj {tag : UInt8} {x y : List UInt8} (hx : x.length < 1000) (hy : y.length < 1000) (h : putS tag x = putS tag y) : x = y := by
  have form : ∀ x : List UInt8, x.length < 1000 → (x.length < 128 ∧ putS tag x = tag :: UInt8.ofNat x.length :: x) ∨ (putS tag x = tag :: 129 :: UInt8.ofNat x.length :: x) ∨
      (putS tag x = tag :: 130 :: UInt8.ofNat (x.length / 256) :: UInt8.ofNat x.length :: x) := fun x hx => by
    unfold putS
    split
    · exact .inl ⟨by assumption, rfl⟩
    · split
      · exact .inr (.inl rfl)
      · rw [if_pos (by omega)]; exact .inr (.inr rfl)
  have nb : ∀ {m : Nat}, m < 128 → ∀ {k : Nat}, 128 ≤ k → k < 256 → UInt8.ofNat m ≠ UInt8.ofNat k := fun hm k h1 h2 e => by
    have := congrArg UInt8.toNat e
    rw [UInt8.toNat_ofNat', UInt8.toNat_ofNat'] at this; omega
  rcases form x hx with ⟨hx1, ex⟩ | ex | ex <;> rcases form y hy with ⟨hy1, ey⟩ | ey | ey <;> rw [ex, ey] at h
  · exact (List.cons.inj (List.cons.inj h).2).2
  · exact absurd (List.cons.inj (List.cons.inj h).2).1 (nb hx1 (k := 129) (by omega) (by omega))
  · exact absurd (List.cons.inj (List.cons.inj h).2).1 (nb hx1 (k := 130) (by omega) (by omega))
  · exact absurd (List.cons.inj (List.cons.inj h).2).1.symm (nb hy1 (k := 129) (by omega) (by omega))
  · exact (List.cons.inj (List.cons.inj (List.cons.inj h).2).2).2
  · exact absurd (List.cons.inj (List.cons.inj h).2).1 (by decide)
  · exact absurd (List.cons.inj (List.cons.inj h).2).1.symm (nb hy1 (k := 130) (by omega) (by omega))
  · exact absurd (List.cons.inj (List.cons.inj h).2).1 (by decide)
  · exact (List.cons.inj (List.cons.inj (List.cons.inj (List.cons.inj h).2).2).2).2

theorem whole_spec (c : UInt8) (r : List UInt8) : wholeS (c :: r) = if natS (c :: r) = c :: r ∧ c.toNat < 128 then some ((c :: r).dropWhile (· == 0)) else none := by
  have hcl := c.toNat_lt
  rcases r with _ | ⟨d, r⟩
  · simp only [wholeS]
    by_cases hc : c.toNat < 128
    · rw [if_pos hc]
      by_cases hz : c.toNat = 0
      · have e : c = 0 := by rw [← u8_eq hz (by omega)]; rfl
        subst e
        rw [if_pos hz, if_pos ⟨rfl, hc⟩]; rfl
      · rw [if_neg hz, if_pos ⟨by rw [natS_one hz, if_pos hc], hc⟩, dropWhile_one hz]
    · rw [if_neg hc, if_neg (fun q => hc q.2)]
  · have hdl := d.toNat_lt
    simp only [wholeS]
    by_cases hc : c.toNat < 128
    · rw [if_pos hc]
      by_cases hz : c.toNat = 0
      · rw [if_pos hz]
        by_cases hd : d.toNat < 128
        · rw [if_pos hd, if_neg]
          rintro ⟨q, _⟩
          have hl := congrArg List.length q
          rw [natS_zero c _ hz] at hl
          by_cases hdz : d.toNat = 0
          · rw [natS_zero d _ hdz] at hl
            have := natS_len r
            simp at hl; omega
          · rw [natS_one hdz, if_pos hd] at hl
            simp at hl
        · have e : c = 0 := by rw [← u8_eq hz (by omega)]; rfl
          rw [if_neg hd, if_pos ⟨by rw [natS_zero c _ hz, natS_one (by omega), if_neg hd, e], hc⟩, dropWhile_zero hz, dropWhile_one (by omega)]
      · rw [if_neg hz, if_pos ⟨by rw [natS_one hz, if_pos hc], hc⟩, dropWhile_one hz]
    · rw [if_neg hc, if_neg (fun q => hc q.2)]

end Go.Proofs.Ytmkgbegneiaaiaa
