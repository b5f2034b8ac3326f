/- Contracts of blocks: terms, states, their codes. -/
import Derived.Test.YtaklcemgpinleaaDoorCr24
namespace Go.Proofs.YtaklcemgpinleaaDoor
open Go
set_option linter.unusedSimpArgs false
set_option linter.unusedVariables false
set_option linter.unnecessarySimpa false
set_option linter.unusedSectionVars false
set_option maxRecDepth 100000
structure Tm where
  k : Int
  s : ByteArray
  n : Int
structure Bs where
  a : Int
  b : Int
  c : Int
  deriving DecidableEq
abbrev T (t : Tm) : AV := .agg [I t.k, S t.s, I t.n]
abbrev BS (s : Bs) : AV := .agg [I s.a, I s.b, I s.c]
abbrev U3 : AV := .agg [.undef, .undef, .undef]
/-- a term of the language -/
def termB (t : Tm) : Bool := inR t.k 1 12 && (inR t.n 0 9999 && ((counts t.k || decide (t.n = 0)) && (if t.k = 1 then nameB t.s else t.s.toList == [])))
theorem s_l13Term (t : Tm) (hs : t.s.size < 4611686018427387904) : A 49 [T t] (B (termB t)) [U3] := by
  refine ac [] [] (fn := Tryd.f49) rfl (by kernel_rfl) [0, 1, 2, 23, 26] ?_
  (repeat' ((conv => whnf); first | (refine Br_intro (fun h => ?_) (fun h => ?_) <;> (try simp only [Bool.not_eq_true', Bool.not_eq_false', Bool.not_eq_true, Bool.not_eq_false, decide_eq_true_eq, decide_eq_false_iff_not, beq_iff_eq, bne_iff_ne, ne_eq, beq_eq_false_iff_ne, bne_eq_false_iff_eq, Decidable.not_not] at h) <;> try (exfalso; omega)) | refine call (s_l13Kind _) ?_ | refine call (s_l01In _ _ _) ?_ | refine call (s_l13Counts _) ?_ | refine call (s_l13Name _ hs) ?_ | refine And.intro (by first | omega | exact ⟨by omega, by omega⟩ | kernel_rfl) ?_ | fail))
  all_goals (refine isR (congrArg B ?_) rfl)
  all_goals simp_all [termB]
end Go.Proofs.YtaklcemgpinleaaDoor
