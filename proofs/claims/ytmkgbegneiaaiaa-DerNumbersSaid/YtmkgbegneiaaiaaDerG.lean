/- Walks over der: the reference's Put; the law DerPuts. -/
import Derived.Test.YtmkgbegneiaaiaaDerF
namespace Go.Proofs.Ytmkgbegneiaaiaa
open Go.Eng
set_option maxHeartbeats 1000000
set_option linter.unusedVariables false
variable {P : Program} {G : Nat → AV}

theorem refput_vc (tag : UInt8) (app : App) (l : List UInt8) (hl : l.length < 1099511627776) : vc P G c13 (Ret [.t 4] (putA tag l)) (argFr 0 [u8 tag, bs app l]) [] := by
  have hL : ((List.map b8 l).length : Int) = (l.length : Nat) := by simp
  have nil' : ∀ {m : List (List AV)}, List.map b8 l = [] → m ++ List.map b8 l = m := fun h => by rw [h, List.append_nil]
  have f1 : l.length < 128 → AV.sl .no 1 ([[.int .u8 tag.toNat], [.int .u8 (IntKind.u8.wrap (l.length : Int))]] ++ List.map b8 l) = putA tag l := fun h => by
    rw [putA, if_pos (by omega), putS, if_pos h, b8_wrap]; rfl
  have f2 : ¬ l.length < 128 → l.length < 256 → AV.sl .no 1 ([[.int .u8 tag.toNat], [.int .u8 129], [.int .u8 (IntKind.u8.wrap (l.length : Int))]] ++ List.map b8 l) = putA tag l := fun h h' => by
    rw [putA, if_pos (by omega), putS, if_neg h, if_pos h', b8_wrap]; rfl
  have f3 : ¬ l.length < 256 → l.length < 65536 → AV.sl .no 1 ([[.int .u8 tag.toNat], [.int .u8 130], [.int .u8 (IntKind.u8.wrap (IntKind.i64.wrap ((l.length : Int).tdiv 256)))], [.int .u8 (IntKind.u8.wrap ((l.length : Int).tmod 256))]] ++ List.map b8 l) = putA tag l := fun h h' => by
    have e1 : IntKind.i64.wrap ((l.length : Int).tdiv 256) = ((l.length / 256 : Nat) : Int) := by
      rw [Int.tdiv_eq_ediv_of_nonneg (by omega), wr64 (by omega) (by omega)]; omega
    have e2 : (l.length : Int).tmod 256 = ((l.length % 256 : Nat) : Int) := by
      rw [Int.tmod_eq_emod_of_nonneg (by omega)]; omega
    have e3 : UInt8.ofNat (l.length % 256) = UInt8.ofNat l.length := by
      apply UInt8.toNat_inj.1
      rw [UInt8.toNat_ofNat', UInt8.toNat_ofNat']; omega
    rw [putA, if_pos (by omega), putS, if_neg (by omega), if_neg h, if_pos h', e1, e2, b8_wrap, b8_wrap, e3]; rfl
  conv => whnf
  refine bcase_mk (fun h0 => ?_) (fun h0 => ?_)
  · have h0' : ¬ l.length < 65536 := by simp [lssB_eq] at h0; omega
    conv => whnf
    refine ⟨.inl rfl, .drop ?_⟩
    conv => whnf
    refine ⟨?_, rfl⟩
    rw [putA, if_neg h0']; rfl
  have h0' : l.length < 65536 := by simp [lssB_eq] at h0; omega
  conv => whnf
  refine bcase_mk (fun h1 => ?_) (fun h1 => ?_)
  · have h1' : ¬ l.length < 256 := by simp [lssB_eq] at h1; omega
    conv => whnf
    refine AppGoal.fresh (.inr rfl) (of_decide_eq_true rfl) (of_decide_eq_true rfl) (fun h => by cases h) fun b cap => ?_
    conv => whnf
    refine AppGoal.row (by simp) rfl (by show (4 + (List.map b8 l).length) * 1 ≤ _; rw [List.length_map]; omega) (by show 4 + (List.map b8 l).length ≤ _; rw [List.length_map]; omega) (fun hz => ?_) fun b cap => ?_
    · conv => whnf
      refine ⟨.inl rfl, RetGoal.sl rfl (by simp) ⟨?_, rfl⟩⟩
      rw [← f3 h1' h0', nil' hz, ← hL]; rfl
    · conv => whnf
      refine ⟨.inl rfl, RetGoal.sl rfl (by simp) ⟨?_, rfl⟩⟩
      rw [← f3 h1' h0', ← hL]; rfl
  have h1' : l.length < 256 := by simp [lssB_eq] at h1; omega
  conv => whnf
  refine bcase_mk (fun h2 => ?_) (fun h2 => ?_)
  · have h2' : ¬ l.length < 128 := by simp [lssB_eq] at h2; omega
    conv => whnf
    refine AppGoal.fresh (.inr rfl) (of_decide_eq_true rfl) (of_decide_eq_true rfl) (fun h => by cases h) fun b cap => ?_
    conv => whnf
    refine AppGoal.row (by simp) rfl (by show (3 + (List.map b8 l).length) * 1 ≤ _; rw [List.length_map]; omega) (by show 3 + (List.map b8 l).length ≤ _; rw [List.length_map]; omega) (fun hz => ?_) fun b cap => ?_
    · conv => whnf
      refine ⟨.inl rfl, RetGoal.sl rfl (by simp) ⟨?_, rfl⟩⟩
      rw [← f2 h2' h1', nil' hz, ← hL]; rfl
    · conv => whnf
      refine ⟨.inl rfl, RetGoal.sl rfl (by simp) ⟨?_, rfl⟩⟩
      rw [← f2 h2' h1', ← hL]; rfl
  · have h2' : l.length < 128 := by simp [lssB_eq] at h2; omega
    conv => whnf
    refine AppGoal.fresh (.inr rfl) (of_decide_eq_true rfl) (of_decide_eq_true rfl) (fun h => by cases h) fun b cap => ?_
    conv => whnf
    refine AppGoal.row (by simp) rfl (by show (2 + (List.map b8 l).length) * 1 ≤ _; rw [List.length_map]; omega) (by show 2 + (List.map b8 l).length ≤ _; rw [List.length_map]; omega) (fun hz => ?_) fun b cap => ?_
    · conv => whnf
      refine ⟨.inl rfl, RetGoal.sl rfl (by simp) ⟨?_, rfl⟩⟩
      rw [← f1 h2', nil' hz, ← hL]; rfl
    · conv => whnf
      refine ⟨.inl rfl, RetGoal.sl rfl (by simp) ⟨?_, rfl⟩⟩
      rw [← f1 h2', ← hL]; rfl

def RefPutOk (P : Program) (G : Nat → AV) : Prop := ∀ (tag : UInt8) (app : App) (l : List UInt8), l.length < 1099511627776 → Ans P G 13 [u8 tag, bs app l] (putA tag l)

def PutsI (tag : UInt8) (app : App) (ps : List (App × List UInt8)) (n : Nat) (fr : Fr) (st : St) : Prop :=
  ∃ (i : Nat) (a : App) (acc : List UInt8), i + n = ps.length ∧ acc = ((ps.map (·.2)).take i).flatten ∧ i + acc.length ≤ 200000 ∧ a ≠ .no ∧ (a = .nil → acc = []) ∧
    fr = [(0, u8 tag), (1, .sl app 1 (ps.map fun p => [bs p.1 p.2])), (5, bs a acc), (6, .int .i64 (i + acc.length : Nat)), (11, .sl app 1 (ps.map fun p => [bs p.1 p.2])), (12, .int .i64 ps.length), (13, .int .i64 i)] ∧ st = [.row a acc.length 1]

theorem derputs_vc (hS : SoundOk P G) (hPut : PutOk P G) (hRef : RefPutOk P G) (tag : UInt8) (app : App) (ps : List (App × List UInt8)) (hp : ∀ p ∈ ps, p.2.length < 4611686018427387904) :
    vc P G c3 (Ret [.t 4] (.bool true)) (argFr 0 [u8 tag, .sl app 1 (ps.map fun p => [bs p.1 p.2])]) [] := by
  conv => whnf
  refine CallGoal.pure hS ?_
  conv => whnf
  refine LoopGoal.inv (PutsI tag app ps) ps.length (.row .nil 0 1 rfl (Frz.keep (fr' := [(0, u8 tag), (1, .sl app 1 (ps.map fun p => [bs p.1 p.2])), (5, bs .nil []), (6, .int .i64 0), (11, .sl app 1 (ps.map fun p => [bs p.1 p.2])), (12, .int .i64 ps.length), (13, .int .i64 0)]) ?_)) ⟨0, .nil, [], by omega, by simp, by simp, by simp, by simp, rfl, rfl⟩ ?_
  · refine Fr.sub_cons rfl (Fr.sub_cons rfl (Fr.sub_cons rfl (Fr.sub_cons rfl (Fr.sub_cons rfl (Fr.sub_cons ?_ (Fr.sub_cons rfl (Fr.sub_nil _)))))))
    show some (AV.int .i64 ((List.map (fun p : App × List UInt8 => [bs p.1 p.2]) ps).length : Nat)) = _
    rw [List.length_map]
  rintro n fr st ⟨i, a, acc, hin, hacc, hbound, ha, hnil, rfl, rfl⟩
  conv => whnf
  refine bcase_mk (fun h => ?_) (fun h => ?_)
  · have hi : i < ps.length := by simpa [lssB_eq] using h
    obtain ⟨p, hpi⟩ : ∃ p, ps[i]? = some p := ⟨ps[i], List.getElem?_eq_getElem hi⟩
    have hpl := hp p (List.mem_of_getElem? hpi)
    have hacc' : acc ++ p.2 = ((ps.map (·.2)).take (i + 1)).flatten := by
      rw [List.take_add_one, List.flatten_append, ← hacc]
      simp [hpi]
    have e1 : IntKind.i64.wrap ((i : Int) + 1) = ((i + 1 : Nat) : Int) := by rw [wr64 (by omega) (by omega)]; omega
    have hL : ((List.map b8 p.2).length : Int) = (p.2.length : Nat) := by simp
    have e2 : IntKind.i64.wrap (((i + acc.length : Nat) : Int) + IntKind.i64.wrap (1 + ((List.map b8 p.2).length : Int))) = ((i + 1 + (acc ++ p.2).length : Nat) : Int) := by
      rw [hL, wr64 (n := 1 + _) (by omega) (by omega), wr64 (by omega) (by omega), List.length_append]; omega
    conv => whnf
    refine IdxGoal.at (c := [bs p.1 p.2]) (by omega) (by simp [hpi]) ?_
    conv => whnf
    rw [e2]
    refine bcase_mk (fun h2 => ?_) (fun h2 => ?_)
    · conv => whnf
      exact ⟨.inl rfl, .drop ⟨rfl, rfl⟩⟩
    have h2' : i + 1 + (acc ++ p.2).length ≤ 200000 := by simp [lssB_eq] at h2; simp; omega
    have h2'' := h2'
    rw [List.length_append] at h2''
    conv => whnf
    refine AppGoal.row ha (by simp) (by simp; omega) (by simp; omega) ?_ ?_
    · intro h0
      have h0' : p.2 = [] := by simpa using h0
      conv => whnf
      refine ⟨n - 1, by omega, _, _, Frz.keep (fr' := [(0, u8 tag), (1, .sl app 1 (ps.map fun p => [bs p.1 p.2])), (5, bs a acc), (6, .int .i64 (i + 1 + acc.length : Nat)), (11, .sl app 1 (ps.map fun p => [bs p.1 p.2])), (12, .int .i64 ps.length), (13, .int .i64 (i + 1 : Nat))]) ?_,
        i + 1, a, acc, by omega, by rw [← hacc', h0']; simp, by omega, ha, hnil, rfl, rfl⟩
      exact Fr.sub_cons rfl (Fr.sub_cons rfl (Fr.sub_cons rfl (Fr.sub_cons (congrArg (fun z : Nat => some (AV.int .i64 z)) (show i + 1 + (acc ++ p.2).length = i + 1 + acc.length from by rw [h0', List.append_nil])) (Fr.sub_cons rfl (Fr.sub_cons rfl (Fr.sub_cons (congrArg (fun z => some (AV.int .i64 z)) e1) (Fr.sub_nil _)))))))
    · intro b cap
      conv => whnf
      refine ⟨n - 1, by omega, _, _, Frz.keep (fr' := [(0, u8 tag), (1, .sl app 1 (ps.map fun p => [bs p.1 p.2])), (5, bs (.tok b cap) (acc ++ p.2)), (6, .int .i64 (i + 1 + (acc ++ p.2).length : Nat)), (11, .sl app 1 (ps.map fun p => [bs p.1 p.2])), (12, .int .i64 ps.length), (13, .int .i64 (i + 1 : Nat))]) ?_,
        i + 1, .tok b cap, acc ++ p.2, by omega, hacc', h2', by simp, by simp, rfl, by simp⟩
      exact Fr.sub_cons rfl (Fr.sub_cons rfl (Fr.sub_cons (congrArg (fun z => some (AV.sl (.tok b cap) 1 z)) List.map_append.symm) (Fr.sub_cons rfl (Fr.sub_cons rfl (Fr.sub_cons rfl (Fr.sub_cons (congrArg (fun z => some (AV.int .i64 z)) e1) (Fr.sub_nil _)))))))
  · have hi : i = ps.length := by have : ¬ i < ps.length := by simpa [lssB_eq] using h
                                  omega
    have hall : (ps.map (·.2)).flatten = acc := by rw [hacc, hi, List.take_of_length_le (by simp)]
    have h1 := hPut tag app ps (by rw [hall]; omega) (by omega)
    have h2 := hRef tag a acc (by omega)
    rw [hall] at h1
    have hA : ∃ ap bytes, putA tag acc = bs ap bytes := by
      unfold putA
      split
      · exact ⟨_, _, rfl⟩
      · exact ⟨_, _, rfl⟩
    obtain ⟨ap, bytes, hput⟩ := hA
    rw [hput] at h1 h2
    conv => whnf
    refine CallGoal.pure h1 ?_
    conv => whnf
    refine StrGoal.b8 ?_
    conv => whnf
    refine CallGoal.pure h2 ?_
    conv => whnf
    refine StrGoal.b8 ?_
    conv => whnf
    refine ⟨.inl rfl, .drop ⟨?_, rfl⟩⟩
    show AV.bool (_ == _) = _
    rw [beq_self_eq_true]
end Go.Proofs.Ytmkgbegneiaaiaa
