/- Contracts of blocks: terms, states, their codes. -/
import Derived.Test.YtaklcemgpinleaaDoorCr28
import Derived.Test.YtaklcemgpinleaaDoorCr25
namespace Go.Proofs.YtaklcemgpinleaaDoor
open Go
set_option linter.unusedSimpArgs false
set_option linter.unusedVariables false
set_option linter.unnecessarySimpa false
set_option linter.unusedSectionVars false
set_option maxRecDepth 100000
theorem toList_nil {s : ByteArray} : (s.toList == ([] : List UInt8)) = decide (s.size = 0) := by
  have h : s.data.toList.length = s.size := Array.length_toList
  rw [ByteArray.toList_eq]
  by_cases hz : s.size = 0
  · have : s.data.toList = [] := List.eq_nil_of_length_eq_zero (by omega)
    simp [hz, this]
  · have : s.data.toList ≠ [] := fun e => hz (by rw [← h, e]; rfl)
    have h2 : ¬ s.data = #[] := fun e => this (by rw [e])
    simp [hz, h2]
theorem nameB_nil {s : ByteArray} (h : s.size = 0) : nameB s = false := by
  simp [nameB, wordB, h, inR]
theorem i_isTerm (t : Tm) (hs : t.s.size < 4611686018427387904) : A 51 [T t] (B (termB t)) [U3] := by
  have hn := @nameB_nil t.s
  refine ac [] [] (fn := Tryd.f51) rfl (by kernel_rfl) [0, 1, 2, 15, 18] ?_
  (repeat' ((conv => whnf); first | (refine Br_intro (fun h => ?_) (fun h => ?_) <;> (try simp only [Bool.not_eq_true', Bool.not_eq_false', Bool.not_eq_true, Bool.not_eq_false, decide_eq_true_eq, decide_eq_false_iff_not, beq_iff_eq, bne_iff_ne, ne_eq, beq_eq_false_iff_ne, bne_eq_false_iff_eq, Decidable.not_not] at h) <;> try (exfalso; omega)) | refine call (i_within _ _ _) ?_ | refine call (i_isNumbered _) ?_ | refine call (i_isName _ hs) ?_ | refine And.intro (by first | omega | exact ⟨by omega, by omega⟩ | kernel_rfl) ?_ | fail))
  all_goals (refine isR (congrArg B ?_) rfl)
  all_goals have e : ({ data := #[] } : ByteArray).toList = [] := by rw [ByteArray.toList_eq]
  all_goals simp only [e, toList_nil, termB, inR, counts] at *
  all_goals by_cases hz : t.s.size = 0 <;> simp_all <;> omega
def blockB (t : Tm) : Bool := termB t && decide (7 ≤ t.k)
theorem i_IsBlock (t : Tm) (hs : t.s.size < 4611686018427387904) : A 28 [T t] (B (blockB t)) [U3] := by
  refine ac [] [] (fn := Tryd.f28) rfl (by kernel_rfl) [0, 1, 2] ?_
  (repeat' ((conv => whnf); first | (refine Br_intro (fun h => ?_) (fun h => ?_) <;> (try simp only [Bool.not_eq_true', Bool.not_eq_false', Bool.not_eq_true, Bool.not_eq_false, decide_eq_true_eq, decide_eq_false_iff_not, beq_iff_eq, bne_iff_ne, ne_eq, beq_eq_false_iff_ne, bne_eq_false_iff_eq, Decidable.not_not] at h) <;> try (exfalso; omega)) | refine call (i_isTerm _ hs) ?_ | refine And.intro (by first | omega | exact ⟨by omega, by omega⟩ | kernel_rfl) ?_ | fail))
  all_goals (refine isR (congrArg B ?_) rfl; simp [blockB, *])
theorem s_IsBlock (t : Tm) (hs : t.s.size < 4611686018427387904) : A 23 [T t] (B (blockB t)) [U3] := by
  refine ac [] [] (fn := Tryd.f23) rfl (by kernel_rfl) [0, 1, 2] ?_
  (repeat' ((conv => whnf); first | (refine Br_intro (fun h => ?_) (fun h => ?_) <;> (try simp only [Bool.not_eq_true', Bool.not_eq_false', Bool.not_eq_true, Bool.not_eq_false, decide_eq_true_eq, decide_eq_false_iff_not, beq_iff_eq, bne_iff_ne, ne_eq, beq_eq_false_iff_ne, bne_eq_false_iff_eq, Decidable.not_not] at h) <;> try (exfalso; omega)) | refine call (s_l13Term _ hs) ?_ | refine And.intro (by first | omega | exact ⟨by omega, by omega⟩ | kernel_rfl) ?_ | fail))
  all_goals (refine isR (congrArg B ?_) rfl; simp [blockB, *])
def possB (t : Tm) (s : Bs) : Bool :=
  if t.k = 9 ∨ t.k = 10 then inR s.a 0 1 && (decide (s.b = 0) && decide (s.c = 0))
  else if t.k = 11 then inR s.a 0 t.n && (inR s.b 0 1 && decide (s.c = 0))
  else if t.k = 12 then decide (s.b = 0) && ((inR s.a 0 t.n && decide (s.c = 0)) || (decide (s.a = t.n + 1) && decide (s.c = 1)))
  else inR s.a 0 t.n && (decide (s.b = 0) && decide (s.c = 0))
theorem block_facts {t : Tm} (h : blockB t = true) : 7 ≤ t.k ∧ t.k ≤ 12 ∧ 0 ≤ t.n ∧ t.n ≤ 9999 := by
  simp only [blockB, termB, inR, Bool.and_eq_true, decide_eq_true_eq] at h
  omega
set_option maxHeartbeats 2000000 in
theorem s_l15Possible (t : Tm) (s : Bs) (h0 : 0 ≤ t.n) (h1 : t.n ≤ 9999) : A 24 [T t, BS s] (B (possB t s)) [U3, U3] := by
  refine ac [] [] (fn := Tryd.f24) rfl (by kernel_rfl) [0, 1, 2, 3, 4, 6, 7, 23, 40] ?_
  (repeat' ((conv => whnf); first | (refine Br_intro (fun h => ?_) (fun h => ?_) <;> (try simp only [Bool.not_eq_true', Bool.not_eq_false', Bool.not_eq_true, Bool.not_eq_false, decide_eq_true_eq, decide_eq_false_iff_not, beq_iff_eq, bne_iff_ne, ne_eq, beq_eq_false_iff_ne, bne_eq_false_iff_eq, Decidable.not_not] at h) <;> try (exfalso; omega)) | refine call (s_l01In _ _ _) ?_ | refine And.intro (by first | omega | exact ⟨by omega, by omega⟩ | kernel_rfl) ?_ | fail))
  all_goals (refine isR (congrArg B ?_) rfl)
  all_goals have hw : IntKind.i64.wrap (t.n + 1) = t.n + 1 := by rw [wrap_id] <;> omega
  all_goals try simp only [hw] at *
  all_goals simp_all [possB, beqI]
set_option maxHeartbeats 2000000 in
theorem i_isPossible (t : Tm) (s : Bs) (hk : 7 ≤ t.k ∧ t.k ≤ 12) (h0 : 0 ≤ t.n) (h1 : t.n ≤ 9999) : A 29 [T t, BS s] (B (possB t s)) [U3, U3] := by
  refine ac [] [] (fn := Tryd.f29) rfl (by kernel_rfl) [0, 1, 2, 3, 4, 5, 9, 10, 27, 43] ?_
  (repeat' ((conv => whnf); first | (refine Br_intro (fun h => ?_) (fun h => ?_) <;> (try simp only [Bool.not_eq_true', Bool.not_eq_false', Bool.not_eq_true, Bool.not_eq_false, decide_eq_true_eq, decide_eq_false_iff_not, beq_iff_eq, bne_iff_ne, ne_eq, beq_eq_false_iff_ne, bne_eq_false_iff_eq, Decidable.not_not] at h) <;> try (exfalso; omega)) | refine call (i_within _ _ _) ?_ | refine And.intro (by first | omega | exact ⟨by omega, by omega⟩ | kernel_rfl) ?_ | fail))
  all_goals (refine isR (congrArg B ?_) rfl)
  all_goals have hw : IntKind.i64.wrap (t.n + 1) = t.n + 1 := by rw [wrap_id] <;> omega
  all_goals try simp only [hw] at *
  all_goals have h9 : ¬ t.k = 7 → ¬ t.k = 8 → ¬ t.k = 11 → ¬ t.k = 12 → (t.k = 9 ∨ t.k = 10) := by omega
  all_goals simp_all [possB, beqI]
end Go.Proofs.YtaklcemgpinleaaDoor
