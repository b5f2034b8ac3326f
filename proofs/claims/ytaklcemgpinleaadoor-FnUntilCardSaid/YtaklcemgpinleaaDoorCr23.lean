/- Contracts of small functions. -/
import Derived.Test.YtaklcemgpinleaaDoorCr22
namespace Go.Proofs.YtaklcemgpinleaaDoor
open Go
set_option linter.unusedSimpArgs false
set_option linter.unusedVariables false
set_option linter.unnecessarySimpa false
set_option linter.unusedSectionVars false
set_option maxRecDepth 100000
def inR (x lo hi : Int) : Bool := decide (lo ≤ x) && decide (x ≤ hi)
def takes (k : Int) : Int := if k = 1 ∨ k = 2 ∨ k = 3 then 0 else if k = 4 ∨ k = 7 ∨ k = 8 ∨ k = 9 then 1 else 2
def counts (k : Int) : Bool := decide (k = 7 ∨ k = 8 ∨ k = 11 ∨ k = 12)
def bit (b : Bool) : Int := if b then 1 else 0
theorem i_within (x lo hi : Int) : A 52 [I x, I lo, I hi] (B (inR x lo hi)) [.undef, .undef, .undef] := by
  refine ac [] [] (fn := Tryd.f52) rfl (by kernel_rfl) [0, 1, 2, 6] ?_
  (repeat' ((conv => whnf); first | (refine Br_intro (fun h => ?_) (fun h => ?_) <;> (try simp only [Bool.not_eq_true', Bool.not_eq_false', Bool.not_eq_true, Bool.not_eq_false, decide_eq_true_eq, decide_eq_false_iff_not, beq_iff_eq, bne_iff_ne, ne_eq, beq_eq_false_iff_ne, bne_eq_false_iff_eq, Decidable.not_not] at h) <;> try (exfalso; omega)) | refine And.intro (by first | omega | exact ⟨by omega, by omega⟩ | kernel_rfl) ?_ | fail))
  all_goals (refine isR (congrArg B ?_) rfl; simp [inR, *])
theorem s_l01In (x lo hi : Int) : A 50 [I x, I lo, I hi] (B (inR x lo hi)) [.undef, .undef, .undef] := by
  refine ac [] [] (fn := Tryd.f50) rfl (by kernel_rfl) [0, 1, 2, 6] ?_
  (repeat' ((conv => whnf); first | (refine Br_intro (fun h => ?_) (fun h => ?_) <;> (try simp only [Bool.not_eq_true', Bool.not_eq_false', Bool.not_eq_true, Bool.not_eq_false, decide_eq_true_eq, decide_eq_false_iff_not, beq_iff_eq, bne_iff_ne, ne_eq, beq_eq_false_iff_ne, bne_eq_false_iff_eq, Decidable.not_not] at h) <;> try (exfalso; omega)) | refine And.intro (by first | omega | exact ⟨by omega, by omega⟩ | kernel_rfl) ?_ | fail))
  all_goals (refine isR (congrArg B ?_) rfl; simp [inR, *])
theorem i_arguments (k : Int) : A 39 [I k] (I (takes k)) [.undef] := by
  refine ac [] [] (fn := Tryd.f39) rfl (by kernel_rfl) [0, 2, 3, 4, 8] ?_
  (repeat' ((conv => whnf); first | (refine Br_intro (fun h => ?_) (fun h => ?_) <;> (try simp only [Bool.not_eq_true', Bool.not_eq_false', Bool.not_eq_true, Bool.not_eq_false, decide_eq_true_eq, decide_eq_false_iff_not, beq_iff_eq, bne_iff_ne, ne_eq, beq_eq_false_iff_ne, bne_eq_false_iff_eq, Decidable.not_not] at h) <;> try (exfalso; omega)) | refine And.intro (by first | omega | exact ⟨by omega, by omega⟩ | kernel_rfl) ?_ | fail))
  all_goals (refine isR (congrArg I ?_) rfl; simp [takes, *])
theorem s_l13Takes (k : Int) : A 44 [I k] (I (takes k)) [.undef] := by
  refine ac [] [] (fn := Tryd.f44) rfl (by kernel_rfl) [0, 2, 3, 4, 8] ?_
  (repeat' ((conv => whnf); first | (refine Br_intro (fun h => ?_) (fun h => ?_) <;> (try simp only [Bool.not_eq_true', Bool.not_eq_false', Bool.not_eq_true, Bool.not_eq_false, decide_eq_true_eq, decide_eq_false_iff_not, beq_iff_eq, bne_iff_ne, ne_eq, beq_eq_false_iff_ne, bne_eq_false_iff_eq, Decidable.not_not] at h) <;> try (exfalso; omega)) | refine And.intro (by first | omega | exact ⟨by omega, by omega⟩ | kernel_rfl) ?_ | fail))
  all_goals (refine isR (congrArg I ?_) rfl; simp [takes, *])
theorem i_truth (b : Bool) : A 40 [B b] (I (bit b)) [.undef] := by
  refine ac [] [] (fn := Tryd.f40) rfl (by kernel_rfl) [0, 2, 3] ?_
  conv => whnf
  refine Br_intro (fun h => ?_) (fun h => ?_) <;> refine isR (congrArg I ?_) rfl <;> simp [bit, h]
theorem s_l15Bit (b : Bool) : A 45 [B b] (I (bit b)) [.undef] := by
  refine ac [] [] (fn := Tryd.f45) rfl (by kernel_rfl) [0, 2, 3] ?_
  conv => whnf
  refine Br_intro (fun h => ?_) (fun h => ?_) <;> refine isR (congrArg I ?_) rfl <;> simp [bit, h]
theorem s_l13Counts (k : Int) : A 53 [I k] (B (counts k)) [.undef] := by
  refine ac [] [] (fn := Tryd.f53) rfl (by kernel_rfl) [0, 2] ?_
  (repeat' ((conv => whnf); first | (refine Br_intro (fun h => ?_) (fun h => ?_) <;> (try simp only [Bool.not_eq_true', Bool.not_eq_false', Bool.not_eq_true, Bool.not_eq_false, decide_eq_true_eq, decide_eq_false_iff_not, beq_iff_eq, bne_iff_ne, ne_eq, beq_eq_false_iff_ne, bne_eq_false_iff_eq, Decidable.not_not] at h) <;> try (exfalso; omega)) | refine And.intro (by first | omega | exact ⟨by omega, by omega⟩ | kernel_rfl) ?_ | fail))
  all_goals (refine isR (congrArg B ?_) rfl; simp [counts, beqI, *])
theorem i_isNumbered (k : Int) : A 63 [I k] (B (counts k)) [.undef] := by
  refine ac [] [] (fn := Tryd.f63) rfl (by kernel_rfl) [0, 2] ?_
  (repeat' ((conv => whnf); first | (refine Br_intro (fun h => ?_) (fun h => ?_) <;> (try simp only [Bool.not_eq_true', Bool.not_eq_false', Bool.not_eq_true, Bool.not_eq_false, decide_eq_true_eq, decide_eq_false_iff_not, beq_iff_eq, bne_iff_ne, ne_eq, beq_eq_false_iff_ne, bne_eq_false_iff_eq, Decidable.not_not] at h) <;> try (exfalso; omega)) | refine And.intro (by first | omega | exact ⟨by omega, by omega⟩ | kernel_rfl) ?_ | fail))
  all_goals (refine isR (congrArg B ?_) rfl; simp [counts, beqI, *])
theorem s_l13Kind (k : Int) : A 61 [I k] (B (inR k 1 12)) [.undef] := by
  refine ac [] [] (fn := Tryd.f61) rfl (by kernel_rfl) [0, 2] ?_
  refine ⟨_, _, s_l01In _ _ _, ?_⟩
  exact isR rfl rfl
abbrev bytes (s : List UInt8) : Rows := s.map fun b => [TV.v (.int .u8 b.toNat)]
theorem w_big (s : List UInt8) : A 4 [L 1 (bytes s)] (B (decide (4096 < (s.length : Int)))) [.undef] := by
  refine ac [] [] (fn := Tryd.f4) rfl (by kernel_rfl) [0, 2] ?_
  conv => whnf
  refine isR (congrArg B ?_) rfl
  simp
abbrev U8 (b : UInt8) : AV := .t (.v (.int .u8 b.toNat))
def letterB (b : UInt8) : Bool := inR b.toNat 97 122
def digitB (b : UInt8) : Bool := inR b.toNat 48 57
def innerB (b : UInt8) : Bool := letterB b || (digitB b || decide ((b.toNat : Int) = 95))
theorem s_l12Letter (b : UInt8) : A 84 [U8 b] (B (letterB b)) [.undef] := by
  refine ac [] [] (fn := Tryd.f84) rfl (by kernel_rfl) [0, 2] ?_
  (repeat' ((conv => whnf); first | (refine Br_intro (fun h => ?_) (fun h => ?_) <;> (try simp only [Bool.not_eq_true', Bool.not_eq_false', Bool.not_eq_true, Bool.not_eq_false, decide_eq_true_eq, decide_eq_false_iff_not, beq_iff_eq, bne_iff_ne, ne_eq, beq_eq_false_iff_ne, bne_eq_false_iff_eq, Decidable.not_not] at h) <;> try (exfalso; omega)) | refine And.intro (by first | omega | exact ⟨by omega, by omega⟩ | kernel_rfl) ?_ | fail))
  all_goals (refine isR (congrArg B ?_) rfl; simp [letterB, inR, *])
theorem s_l12Digit (b : UInt8) : A 90 [U8 b] (B (digitB b)) [.undef] := by
  refine ac [] [] (fn := Tryd.f90) rfl (by kernel_rfl) [0, 2] ?_
  (repeat' ((conv => whnf); first | (refine Br_intro (fun h => ?_) (fun h => ?_) <;> (try simp only [Bool.not_eq_true', Bool.not_eq_false', Bool.not_eq_true, Bool.not_eq_false, decide_eq_true_eq, decide_eq_false_iff_not, beq_iff_eq, bne_iff_ne, ne_eq, beq_eq_false_iff_ne, bne_eq_false_iff_eq, Decidable.not_not] at h) <;> try (exfalso; omega)) | refine And.intro (by first | omega | exact ⟨by omega, by omega⟩ | kernel_rfl) ?_ | fail))
  all_goals (refine isR (congrArg B ?_) rfl; simp [digitB, inR, *])
theorem s_l12Inner (b : UInt8) : A 83 [U8 b] (B (innerB b)) [.undef] := by
  refine ac [] [] (fn := Tryd.f83) rfl (by kernel_rfl) [0, 2] ?_
  refine ⟨_, _, s_l12Letter _, ?_⟩
  conv => whnf
  refine Br_intro (fun h => ?_) (fun h => ?_)
  · conv => whnf
    refine isR (congrArg B ?_) rfl
    simp [innerB, h]
  · refine ⟨_, _, s_l12Digit _, ?_⟩
    conv => whnf
    refine Br_intro (fun h2 => ?_) (fun h2 => ?_)
    · conv => whnf
      refine isR (congrArg B ?_) rfl
      simp [innerB, h2]
    · conv => whnf
      refine isR (congrArg B ?_) rfl
      simp [innerB, h, h2, beqI]
end Go.Proofs.YtaklcemgpinleaaDoor
