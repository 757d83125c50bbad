/- Walks over der: Put; what stands in 'sound'. -/
import Derived.Test.YtmkgbegneiaaiaaDerC
namespace Go.Proofs.Ytmkgbegneiaaiaa
open Go.Eng
set_option maxHeartbeats 1000000
set_option linter.unusedVariables false
variable {P : Program} {G : Nat → AV}

/-- What a function answers. -/
abbrev Ret (ts : List RV) (x : AV) : AQ := fun e fr st => (e = .ret ∨ e = .normal) ∧ RetGoal ts (fun r st => r = x ∧ st = []) fr st
/-- A function that answers one thing. -/
abbrev Ans (P : Program) (G : Nat → AV) (f : FuncId) (args : List AV) (x : AV) : Prop := ACall P G f args (fun r st => r = x ∧ st = []) []

def putS (tag : UInt8) (b : List UInt8) : List UInt8 :=
  if b.length < 128 then tag :: UInt8.ofNat b.length :: b
  else if b.length < 256 then tag :: 129 :: UInt8.ofNat b.length :: b
  else if b.length < 65536 then tag :: 130 :: UInt8.ofNat (b.length / 256) :: UInt8.ofNat b.length :: b
  else []
def putA (tag : UInt8) (b : List UInt8) : AV := if b.length < 65536 then bs .no (putS tag b) else bs .nil []
def PutI (tag : UInt8) (app : App) (ps : List (App × List UInt8)) (n : Nat) (fr : Fr) (st : St) : Prop :=
  ∃ (i : Nat) (a : App) (acc : List UInt8), i + n = ps.length ∧ acc = ((ps.map (·.2)).take i).flatten ∧ a ≠ .no ∧ (a = .nil → acc = []) ∧
    fr = [(0, u8 tag), (5, bs a acc), (9, .sl app 1 (ps.map fun p => [bs p.1 p.2])), (10, .int .i64 ps.length), (11, .int .i64 i)] ∧ st = [.row a acc.length 1]
theorem put_vc (tag : UInt8) (app : App) (ps : List (App × List UInt8)) (hlen : (ps.map (·.2)).flatten.length < 1099511627776) (hps : ps.length < 1099511627776) : vc P G c12 (fun e fr st => (e = .ret ∨ e = .normal) ∧ RetGoal [.t 4] (fun r st => r = putA tag (ps.map (·.2)).flatten ∧ st = []) fr st) (argFr 0 [u8 tag, .sl app 1 (ps.map fun p => [bs p.1 p.2])]) [] := by
  conv => whnf
  refine LoopGoal.inv (PutI tag app ps) ps.length (.row .nil 0 1 rfl (Frz.keep (fr' := [(0, u8 tag), (5, bs .nil []), (9, .sl app 1 (ps.map fun p => [bs p.1 p.2])), (10, .int .i64 ps.length), (11, .int .i64 0)]) ?_)) ⟨0, .nil, [], by omega, by simp, by simp, by simp, rfl, rfl⟩ ?_
  · refine Fr.sub_cons rfl (Fr.sub_cons rfl (Fr.sub_cons rfl (Fr.sub_cons ?_ (Fr.sub_cons rfl (Fr.sub_nil _)))))
    show some (AV.int .i64 ((List.map (fun p : App × List UInt8 => [bs p.1 p.2]) ps).length : Nat)) = _
    rw [List.length_map]
  rintro n fr st ⟨i, a, acc, hin, hacc, ha, hnil, rfl, rfl⟩
  have htot : acc.length ≤ (ps.map (·.2)).flatten.length := by
    rw [hacc]
    conv => rhs; rw [← List.take_append_drop i (ps.map (·.2))]
    rw [List.flatten_append, List.length_append]; omega
  conv => whnf
  refine bcase_mk (fun h => ?_) (fun h => ?_)
  · have hi : i < ps.length := by simpa [lssB_eq] using h
    obtain ⟨p, hp⟩ : ∃ p, ps[i]? = some p := ⟨ps[i], List.getElem?_eq_getElem hi⟩
    have hacc' : acc ++ p.2 = ((ps.map (·.2)).take (i + 1)).flatten := by
      rw [List.take_add_one, List.flatten_append, ← hacc]
      simp [hp]
    have htot' : (acc ++ p.2).length ≤ (ps.map (·.2)).flatten.length := by
      rw [hacc']
      conv => rhs; rw [← List.take_append_drop (i + 1) (ps.map (·.2))]
      rw [List.flatten_append, List.length_append]; omega
    rw [List.length_append] at htot'
    conv => whnf
    refine IdxGoal.at (c := [bs p.1 p.2]) (by omega) (by simp [hp]) ?_
    conv => whnf
    have e1 : IntKind.i64.wrap ((i : Int) + 1) = ((i + 1 : Nat) : Int) := by rw [wr64 (by omega) (by omega)]; omega
    refine AppGoal.row ha (by simp) (by simp; omega) (by simp; omega) ?_ ?_
    · intro h0
      have h0' : p.2 = [] := by simpa using h0
      conv => whnf
      refine ⟨n - 1, by omega, _, _, Frz.keep (fr' := [(0, u8 tag), (5, bs a acc), (9, .sl app 1 (ps.map fun p => [bs p.1 p.2])), (10, .int .i64 ps.length), (11, .int .i64 (i + 1 : Nat))]) ?_, i + 1, a, acc, by omega, by rw [← hacc', h0']; simp, ha, hnil, rfl, rfl⟩
      exact Fr.sub_cons rfl (Fr.sub_cons rfl (Fr.sub_cons rfl (Fr.sub_cons rfl (Fr.sub_cons (congrArg (fun z => some (AV.int .i64 z)) e1) (Fr.sub_nil _)))))
    · intro b cap
      conv => whnf
      refine ⟨n - 1, by omega, _, _, Frz.keep (fr' := [(0, u8 tag), (5, bs (.tok b cap) (acc ++ p.2)), (9, .sl app 1 (ps.map fun p => [bs p.1 p.2])), (10, .int .i64 ps.length), (11, .int .i64 (i + 1 : Nat))]) ?_, i + 1, .tok b cap, acc ++ p.2, by omega, hacc', by simp, by simp, rfl, by simp⟩
      exact Fr.sub_cons rfl (Fr.sub_cons (congrArg (fun z => some (AV.sl (.tok b cap) 1 z)) List.map_append.symm) (Fr.sub_cons rfl (Fr.sub_cons rfl (Fr.sub_cons (congrArg (fun z => some (AV.int .i64 z)) e1) (Fr.sub_nil _)))))
  · have hi : i = ps.length := by have : ¬ i < ps.length := by simpa [lssB_eq] using h
                                  omega
    have hall : acc = (ps.map (·.2)).flatten := by rw [hacc, hi, List.take_of_length_le (by simp)]
    rw [← hall] at htot hlen
    clear hlen
    have hL : ((List.map b8 acc).length : Int) = (acc.length : Nat) := by simp
    have hput : putA tag (ps.map (·.2)).flatten = putA tag acc := by rw [hall]
    have nil' : ∀ {l : List (List AV)}, List.map b8 acc = [] → l ++ List.map b8 acc = l := fun h => by rw [h, List.append_nil]
    have f1 : acc.length < 128 → AV.sl .no 1 ([[.int .u8 tag.toNat], [.int .u8 (IntKind.u8.wrap (acc.length : Int))]] ++ List.map b8 acc) = putA tag (ps.map (·.2)).flatten := fun h => by
      rw [hput, putA, if_pos (by omega), putS, if_pos h, b8_wrap]; rfl
    have f2 : ¬ acc.length < 128 → acc.length < 256 → AV.sl .no 1 ([[.int .u8 tag.toNat], [.int .u8 129], [.int .u8 (IntKind.u8.wrap (acc.length : Int))]] ++ List.map b8 acc) = putA tag (ps.map (·.2)).flatten := fun h h' => by
      rw [hput, putA, if_pos (by omega), putS, if_neg h, if_pos h', b8_wrap]; rfl
    have f3 : ¬ acc.length < 256 → acc.length < 65536 → AV.sl .no 1 ([[.int .u8 tag.toNat], [.int .u8 130], [.int .u8 (IntKind.u8.wrap (shr .i64 (acc.length : Int) 8))], [.int .u8 (IntKind.u8.wrap (acc.length : Int))]] ++ List.map b8 acc) = putA tag (ps.map (·.2)).flatten := fun h h' => by
      have e : shr .i64 (acc.length : Int) 8 = ((acc.length / 256 : Nat) : Int) := by
        show (acc.length : Int).fdiv 256 = _
        rw [Int.fdiv_eq_ediv_of_nonneg _ (by omega)]; omega
      rw [hput, putA, if_pos (by omega), putS, if_neg (by omega), if_neg h, if_pos h', e, b8_wrap, b8_wrap]; rfl
    conv => whnf
    refine bcase_mk (fun h1 => ?_) (fun h1 => ?_)
    · rw [hL] at h1
      have h1' : acc.length < 128 := by simp [lssB_eq] at h1; omega
      conv => whnf
      refine AppGoal.fresh (.inr rfl) (by show (2 + (List.map b8 acc).length) * 1 ≤ _; rw [List.length_map]; omega) (by show 2 + (List.map b8 acc).length ≤ _; rw [List.length_map]; omega) ?_ ?_
      · intro h0
        conv => whnf
        refine ⟨.inl rfl, RetGoal.sl rfl (by simp) ⟨?_, rfl⟩⟩
        rw [← f1 h1', nil' h0, ← hL]; rfl
      · intro b cap
        conv => whnf
        refine ⟨.inl rfl, RetGoal.sl rfl (by simp) ⟨?_, rfl⟩⟩
        rw [← f1 h1', ← hL]; rfl
    rw [hL] at h1
    have h1' : ¬ acc.length < 128 := by simp [lssB_eq] at h1; omega
    conv => whnf
    refine bcase_mk (fun h2 => ?_) (fun h2 => ?_)
    · rw [hL] at h2
      have h2' : acc.length < 256 := by simp [lssB_eq] at h2; omega
      conv => whnf
      refine AppGoal.fresh (.inr rfl) (by show (3 + (List.map b8 acc).length) * 1 ≤ _; rw [List.length_map]; omega) (by show 3 + (List.map b8 acc).length ≤ _; rw [List.length_map]; omega) ?_ ?_
      · intro h0
        conv => whnf
        refine ⟨.inl rfl, RetGoal.sl rfl (by simp) ⟨?_, rfl⟩⟩
        rw [← f2 h1' h2', nil' h0, ← hL]; rfl
      · intro b cap
        conv => whnf
        refine ⟨.inl rfl, RetGoal.sl rfl (by simp) ⟨?_, rfl⟩⟩
        rw [← f2 h1' h2', ← hL]; rfl
    rw [hL] at h2
    have h2' : ¬ acc.length < 256 := by simp [lssB_eq] at h2; omega
    conv => whnf
    refine bcase_mk (fun h3 => ?_) (fun h3 => ?_)
    · rw [hL] at h3
      have h3' : acc.length < 65536 := by simp [lssB_eq] at h3; omega
      conv => whnf
      refine AppGoal.fresh (.inr rfl) (by show (4 + (List.map b8 acc).length) * 1 ≤ _; rw [List.length_map]; omega) (by show 4 + (List.map b8 acc).length ≤ _; rw [List.length_map]; omega) ?_ ?_
      · intro h0
        conv => whnf
        refine ⟨.inl rfl, RetGoal.sl rfl (by simp) ⟨?_, rfl⟩⟩
        rw [← f3 h2' h3', nil' h0, ← hL]; rfl
      · intro b cap
        conv => whnf
        refine ⟨.inl rfl, RetGoal.sl rfl (by simp) ⟨?_, rfl⟩⟩
        rw [← f3 h2' h3', ← hL]; rfl
    rw [hL] at h3
    have h3' : ¬ acc.length < 65536 := by simp [lssB_eq] at h3; omega
    conv => whnf
    refine ⟨.inl rfl, RetGoal.drop ?_⟩
    conv => whnf
    refine ⟨?_, rfl⟩
    rw [hput, putA, if_neg h3']; rfl

def PutOk (P : Program) (G : Nat → AV) : Prop := ∀ (tag : UInt8) (app : App) (ps : List (App × List UInt8)), (ps.map (·.2)).flatten.length < 1099511627776 → ps.length < 1099511627776 →
  Ans P G 12 [u8 tag, .sl app 1 (ps.map fun p => [bs p.1 p.2])] (putA tag (ps.map (·.2)).flatten)

theorem nat128_vc (hPut : PutOk P G) : vc P G c20 (Ret [.t 2] (bs .no [2, 2, 0, 128])) (argFr 0 [bs .full [128]]) [] := by
  conv => whnf
  refine LoopGoal.rounds P G 1 ?_
  conv => whnf
  refine IdxGoal.b8 (c := 128) (by decide) rfl ?_
  conv => whnf
  refine AppGoal.fresh (.inr rfl) (by decide) (by decide) (fun h => by cases h) fun b cap => ?_
  conv => whnf
  refine CallGoal.pure (hPut 2 .full [(.tok b cap, [0, 128])] (by simp) (by simp)) ?_
  conv => whnf
  exact ⟨.inl rfl, .drop ⟨rfl, rfl⟩⟩

theorem num128_vc (hNat : Ans P G 20 [bs .full [128]] (bs .no [2, 2, 0, 128])) : vc P G c18 (Ret [.t 2] (bs .no [2, 2, 0, 128])) (argFr 0 [.int .u64 128]) [] := by
  conv => whnf
  refine LoopGoal.rounds P G 1 ?_
  conv => whnf
  refine CallGoal.pure hNat ?_
  conv => whnf
  exact ⟨.inl rfl, .drop ⟨rfl, rfl⟩⟩

theorem days_vc2 : vc P G c31 (Ret [.t 4] (.int .i64 28)) (argFr 0 [.int .i64 1970, .int .i64 2]) [] := by
  conv => whnf
  exact ⟨.inl rfl, .drop ⟨rfl, rfl⟩⟩
theorem days_vc1 : vc P G c31 (Ret [.t 4] (.int .i64 31)) (argFr 0 [.int .i64 1970, .int .i64 1]) [] := by
  conv => whnf
  exact ⟨.inl rfl, .drop ⟨rfl, rfl⟩⟩
theorem when_vc (hPut : PutOk P G) (d2 : Ans P G 31 [.int .i64 1970, .int .i64 2] (.int .i64 28)) (d1 : Ans P G 31 [.int .i64 1970, .int .i64 1] (.int .i64 31)) : vc P G c26 (Ret [.t 2] (bs .no [23, 13, 55, 48, 48, 49, 48, 49, 48, 48, 48, 48, 48, 48, 90])) (argFr 0 [.int .u64 0]) [] := by
  conv => whnf
  refine LoopGoal.rounds P G 1 ?_
  conv => whnf
  refine CallGoal.pure d2 ?_
  conv => whnf
  refine LoopGoal.rounds P G 1 ?_
  conv => whnf
  refine CallGoal.pure d1 ?_
  conv => whnf
  refine LoopGoal.rounds P G 8 ?_
  conv => whnf
  refine IdxGoal.at (of_decide_eq_true rfl) rfl ?_
  conv => whnf
  refine AppGoal.fresh (.inl rfl) (of_decide_eq_true rfl) (of_decide_eq_true rfl) (fun h => by cases h) fun b0 cap0 => ?_
  iterate 6
    conv => whnf
    refine IdxGoal.at (of_decide_eq_true rfl) rfl ?_
    conv => whnf
    refine AppGoal.row (by simp) rfl (of_decide_eq_true rfl) (of_decide_eq_true rfl) (fun h => by cases h) fun b cap => ?_
  conv => whnf
  refine AppGoal.row (by simp) rfl (of_decide_eq_true rfl) (of_decide_eq_true rfl) (fun h => by cases h) fun b cap => ?_
  conv => whnf
  refine SliceGoal.of 2 15 rfl rfl (of_decide_eq_true rfl) (of_decide_eq_true rfl) ?_
  conv => whnf
  refine CallGoal.pure (hPut 23 .full [(.no, [55, 48, 48, 49, 48, 49, 48, 48, 48, 48, 48, 48, 90])] (by simp) (by simp)) ?_
  conv => whnf
  exact ⟨.inl rfl, .drop ⟨rfl, rfl⟩⟩
end Go.Proofs.Ytmkgbegneiaaiaa
