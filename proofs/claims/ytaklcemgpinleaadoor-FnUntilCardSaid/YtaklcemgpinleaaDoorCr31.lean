/- Contracts of blocks: a scan. -/
import Derived.Test.YtaklcemgpinleaaDoorCr30
namespace Go.Proofs.YtaklcemgpinleaaDoor
open Go
set_option linter.unusedSimpArgs false
set_option linter.unusedVariables false
set_option linter.unnecessarySimpa false
set_option linter.unusedSectionVars false
set_option maxRecDepth 100000
def pairF (n : Int) (s : Bs) (x y : Int) : Int × Bs :=
  if s.c = 1 then (if x = 0 ∧ y = 0 then (0, ⟨0, 0, 0⟩) else (0, s))
  else if x = y then (if x = 1 then (1, ⟨0, 0, 0⟩) else (0, ⟨0, 0, 0⟩))
  else (0, ⟨s.a + 1, 0, if n < s.a + 1 then 1 else 0⟩)
/-- the value and the state of a block after a scan -/
def stepF (k n : Int) (s : Bs) (x y : Int) : Int × Bs :=
  if k = 7 then (if x = 1 then (if n ≤ s.a + 1 then (1, ⟨n, 0, 0⟩) else (0, ⟨s.a + 1, 0, 0⟩)) else (0, ⟨0, 0, 0⟩))
  else if k = 8 then (if x = 1 then (1, ⟨n, 0, 0⟩) else if 0 < s.a then (1, ⟨s.a - 1, 0, 0⟩) else (0, ⟨0, 0, 0⟩))
  else if k = 9 then (if x = 1 ∧ s.a = 0 then 1 else 0, ⟨x, 0, 0⟩)
  else if k = 10 then (if y = 1 then (0, ⟨0, 0, 0⟩) else if x = 1 then (1, ⟨1, 0, 0⟩) else (s.a, ⟨s.a, 0, 0⟩))
  else if k = 11 then
    (if y = 1 then (if n = 0 then (1, ⟨0, x, 0⟩) else (0, ⟨0, x, 0⟩))
     else if x = 1 ∧ s.b = 0 ∧ s.a + 1 ≤ n then (if s.a + 1 = n then (1, ⟨s.a + 1, x, 0⟩) else (0, ⟨s.a + 1, x, 0⟩))
     else (if s.a = n then (1, ⟨s.a, x, 0⟩) else (0, ⟨s.a, x, 0⟩)))
  else pairF n s x y
/-- the arguments of a block of a kind -/
def argL (k x y : Int) : List Int := if k = 7 ∨ k = 8 ∨ k = 9 then [x] else [x, y]
theorem tup4 {v v' a a' b b' c c' : Int} (h0 : v = v') (h1 : a = a') (h2 : b = b') (h3 : c = c') : AV.tup [I v, .agg [I a, I b, I c]] = .tup [I v', .agg [I a', I b', I c']] := by rw [h0, h1, h2, h3]
abbrev VS (p : Int × Bs) : AV := .tup [I p.1, BS p.2]
theorem iteI {c : Bool} {a b : Int} : (if c = true then a else b) = bif c then a else b := by cases c <;> rfl
set_option maxHeartbeats 1000000 in
theorem s_l15Pair (n : Int) (hn : 0 ≤ n ∧ n ≤ 9999) (a c x y : Int) (ha : 0 ≤ a ∧ a ≤ n + 1) (hc : c = 0 ∨ c = 1) (hx : x = 0 ∨ x = 1) (hy : y = 0 ∨ y = 1) :
    A 46 [I n, .agg [I a, I 0, I c], I x, I y] (VS (pairF n ⟨a, 0, c⟩ x y)) [.undef, U3, .undef, .undef] := by
  rcases hc with rfl | rfl <;> rcases hx with rfl | rfl <;> rcases hy with rfl | rfl
  all_goals
    refine ac [] [] (fn := Tryd.f46) rfl (by kernel_rfl) [0, 1, 2, 3, 5, 8, 9, 20, 29, 42] ?_
    (repeat' ((conv => whnf); first | (refine Br_intro (fun h => ?_) (fun h => ?_) <;> (try simp only [Bool.not_eq_true', Bool.not_eq_false', Bool.not_eq_true, Bool.not_eq_false, decide_eq_true_eq, decide_eq_false_iff_not, beq_iff_eq, bne_iff_ne, ne_eq, beq_eq_false_iff_ne, bne_eq_false_iff_eq, Decidable.not_not] at h) <;> try (exfalso; omega)) | refine call (s_l15Bit _) ?_ | refine And.intro (by first | omega | exact ⟨by omega, by omega⟩ | kernel_rfl) ?_ | fail))
    all_goals (refine isR (tup4 ?_ ?_ ?_ ?_) rfl <;> simp [stepF, pairF, bit, minI, maxI, IntKind.wrap_i64, *] <;> (repeat' split) <;> (try dsimp only) <;> first | rfl | omega)
set_option maxHeartbeats 1000000 in
theorem s_step7 (nm : ByteArray) (n : Int) (hn : 0 ≤ n ∧ n ≤ 9999) (a : Int) (ha : 0 ≤ a ∧ a ≤ n) (x y : Int) (hx : x = 0 ∨ x = 1) (hy : y = 0 ∨ y = 1) :
    A 18 [.agg [I 7, S nm, I n], .agg [I a, I 0, I 0], L 1 (ints [x])] (VS (stepF 7 n ⟨a, 0, 0⟩ x y)) [U3, U3, .undef] := by
  rcases hx with rfl | rfl
  · refine ac [] [] (fn := Tryd.f18) rfl (by kernel_rfl) [0, 1, 2, 3, 4, 6, 7, 8, 9, 10, 16, 23, 24, 44, 47, 58, 69, 72, 74, 78, 81, 88] ?_
    conv => whnf
    refine ⟨by omega, _, rfl, ?_⟩
    (repeat' ((conv => whnf); first | (refine Br_intro (fun h => ?_) (fun h => ?_) <;> (try simp only [Bool.not_eq_true', Bool.not_eq_false', Bool.not_eq_true, Bool.not_eq_false, decide_eq_true_eq, decide_eq_false_iff_not, beq_iff_eq, bne_iff_ne, ne_eq, beq_eq_false_iff_ne, bne_eq_false_iff_eq, Decidable.not_not] at h) <;> try (exfalso; omega)) | refine call (s_l15Bit _) ?_ | refine And.intro (by first | omega | exact ⟨by omega, by omega⟩ | kernel_rfl) ?_ | fail))
    all_goals (refine isR (tup4 ?_ ?_ ?_ ?_) rfl <;> simp [stepF, pairF, bit, minI, maxI, IntKind.wrap_i64, *] <;> (repeat' split) <;> (try dsimp only) <;> first | rfl | omega)
  · refine ac [] [] (fn := Tryd.f18) rfl (by kernel_rfl) [0, 1, 2, 3, 4, 6, 7, 8, 9, 10, 16, 23, 24, 44, 47, 58, 69, 72, 74, 78, 81, 88] ?_
    conv => whnf
    refine ⟨by omega, _, rfl, ?_⟩
    (repeat' ((conv => whnf); first | (refine Br_intro (fun h => ?_) (fun h => ?_) <;> (try simp only [Bool.not_eq_true', Bool.not_eq_false', Bool.not_eq_true, Bool.not_eq_false, decide_eq_true_eq, decide_eq_false_iff_not, beq_iff_eq, bne_iff_ne, ne_eq, beq_eq_false_iff_ne, bne_eq_false_iff_eq, Decidable.not_not] at h) <;> try (exfalso; omega)) | refine call (s_l15Bit _) ?_ | refine And.intro (by first | omega | exact ⟨by omega, by omega⟩ | kernel_rfl) ?_ | fail))
    all_goals (refine isR (tup4 ?_ ?_ ?_ ?_) rfl <;> simp [stepF, pairF, bit, minI, maxI, IntKind.wrap_i64, *] <;> (repeat' split) <;> (try dsimp only) <;> first | rfl | omega)
set_option maxHeartbeats 1000000 in
theorem s_step8 (nm : ByteArray) (n : Int) (hn : 0 ≤ n ∧ n ≤ 9999) (a : Int) (ha : 0 ≤ a ∧ a ≤ n) (x y : Int) (hx : x = 0 ∨ x = 1) (hy : y = 0 ∨ y = 1) :
    A 18 [.agg [I 8, S nm, I n], .agg [I a, I 0, I 0], L 1 (ints [x])] (VS (stepF 8 n ⟨a, 0, 0⟩ x y)) [U3, U3, .undef] := by
  rcases hx with rfl | rfl
  · refine ac [] [] (fn := Tryd.f18) rfl (by kernel_rfl) [0, 1, 2, 3, 4, 6, 7, 8, 9, 10, 16, 23, 24, 44, 47, 58, 69, 72, 74, 78, 81, 88] ?_
    conv => whnf
    refine ⟨by omega, _, rfl, ?_⟩
    (repeat' ((conv => whnf); first | (refine Br_intro (fun h => ?_) (fun h => ?_) <;> (try simp only [Bool.not_eq_true', Bool.not_eq_false', Bool.not_eq_true, Bool.not_eq_false, decide_eq_true_eq, decide_eq_false_iff_not, beq_iff_eq, bne_iff_ne, ne_eq, beq_eq_false_iff_ne, bne_eq_false_iff_eq, Decidable.not_not] at h) <;> try (exfalso; omega)) | refine call (s_l15Bit _) ?_ | refine And.intro (by first | omega | exact ⟨by omega, by omega⟩ | kernel_rfl) ?_ | fail))
    all_goals (refine isR (tup4 ?_ ?_ ?_ ?_) rfl <;> simp [stepF, pairF, bit, minI, maxI, IntKind.wrap_i64, *] <;> (repeat' split) <;> (try dsimp only) <;> first | rfl | omega)
  · refine ac [] [] (fn := Tryd.f18) rfl (by kernel_rfl) [0, 1, 2, 3, 4, 6, 7, 8, 9, 10, 16, 23, 24, 44, 47, 58, 69, 72, 74, 78, 81, 88] ?_
    conv => whnf
    refine ⟨by omega, _, rfl, ?_⟩
    (repeat' ((conv => whnf); first | (refine Br_intro (fun h => ?_) (fun h => ?_) <;> (try simp only [Bool.not_eq_true', Bool.not_eq_false', Bool.not_eq_true, Bool.not_eq_false, decide_eq_true_eq, decide_eq_false_iff_not, beq_iff_eq, bne_iff_ne, ne_eq, beq_eq_false_iff_ne, bne_eq_false_iff_eq, Decidable.not_not] at h) <;> try (exfalso; omega)) | refine call (s_l15Bit _) ?_ | refine And.intro (by first | omega | exact ⟨by omega, by omega⟩ | kernel_rfl) ?_ | fail))
    all_goals (refine isR (tup4 ?_ ?_ ?_ ?_) rfl <;> simp [stepF, pairF, bit, minI, maxI, IntKind.wrap_i64, *] <;> (repeat' split) <;> (try dsimp only) <;> first | rfl | omega)
set_option maxHeartbeats 1000000 in
theorem s_step9 (nm : ByteArray) (n : Int) (hn : 0 ≤ n ∧ n ≤ 9999) (a : Int) (ha : 0 ≤ a ∧ a ≤ 1) (x y : Int) (hx : x = 0 ∨ x = 1) (hy : y = 0 ∨ y = 1) :
    A 18 [.agg [I 9, S nm, I n], .agg [I a, I 0, I 0], L 1 (ints [x])] (VS (stepF 9 n ⟨a, 0, 0⟩ x y)) [U3, U3, .undef] := by
  rcases hx with rfl | rfl
  · refine ac [] [] (fn := Tryd.f18) rfl (by kernel_rfl) [0, 1, 2, 3, 4, 6, 7, 8, 9, 10, 16, 23, 24, 44, 47, 58, 69, 72, 74, 78, 81, 88] ?_
    conv => whnf
    refine ⟨by omega, _, rfl, ?_⟩
    (repeat' ((conv => whnf); first | (refine Br_intro (fun h => ?_) (fun h => ?_) <;> (try simp only [Bool.not_eq_true', Bool.not_eq_false', Bool.not_eq_true, Bool.not_eq_false, decide_eq_true_eq, decide_eq_false_iff_not, beq_iff_eq, bne_iff_ne, ne_eq, beq_eq_false_iff_ne, bne_eq_false_iff_eq, Decidable.not_not] at h) <;> try (exfalso; omega)) | refine call (s_l15Bit _) ?_ | refine And.intro (by first | omega | exact ⟨by omega, by omega⟩ | kernel_rfl) ?_ | fail))
    all_goals (refine isR (tup4 ?_ ?_ ?_ ?_) rfl <;> simp [stepF, pairF, bit, minI, maxI, IntKind.wrap_i64, *] <;> (repeat' split) <;> (try dsimp only) <;> first | rfl | omega)
  · refine ac [] [] (fn := Tryd.f18) rfl (by kernel_rfl) [0, 1, 2, 3, 4, 6, 7, 8, 9, 10, 16, 23, 24, 44, 47, 58, 69, 72, 74, 78, 81, 88] ?_
    conv => whnf
    refine ⟨by omega, _, rfl, ?_⟩
    (repeat' ((conv => whnf); first | (refine Br_intro (fun h => ?_) (fun h => ?_) <;> (try simp only [Bool.not_eq_true', Bool.not_eq_false', Bool.not_eq_true, Bool.not_eq_false, decide_eq_true_eq, decide_eq_false_iff_not, beq_iff_eq, bne_iff_ne, ne_eq, beq_eq_false_iff_ne, bne_eq_false_iff_eq, Decidable.not_not] at h) <;> try (exfalso; omega)) | refine call (s_l15Bit _) ?_ | refine And.intro (by first | omega | exact ⟨by omega, by omega⟩ | kernel_rfl) ?_ | fail))
    all_goals (refine isR (tup4 ?_ ?_ ?_ ?_) rfl <;> simp [stepF, pairF, bit, minI, maxI, IntKind.wrap_i64, *] <;> (repeat' split) <;> (try dsimp only) <;> first | rfl | omega)
set_option maxHeartbeats 1000000 in
theorem s_step10 (nm : ByteArray) (n : Int) (hn : 0 ≤ n ∧ n ≤ 9999) (a : Int) (ha : 0 ≤ a ∧ a ≤ 1) (x y : Int) (hx : x = 0 ∨ x = 1) (hy : y = 0 ∨ y = 1) :
    A 18 [.agg [I 10, S nm, I n], .agg [I a, I 0, I 0], L 1 (ints [x, y])] (VS (stepF 10 n ⟨a, 0, 0⟩ x y)) [U3, U3, .undef] := by
  rcases hx with rfl | rfl <;> rcases hy with rfl | rfl
  · refine ac [] [] (fn := Tryd.f18) rfl (by kernel_rfl) [0, 1, 2, 3, 4, 6, 7, 8, 9, 10, 16, 23, 24, 44, 47, 58, 69, 72, 74, 78, 81, 88] ?_
    conv => whnf
    refine ⟨by omega, _, rfl, ?_⟩
    conv => whnf
    refine ⟨by omega, _, rfl, ?_⟩
    (repeat' ((conv => whnf); first | (refine Br_intro (fun h => ?_) (fun h => ?_) <;> (try simp only [Bool.not_eq_true', Bool.not_eq_false', Bool.not_eq_true, Bool.not_eq_false, decide_eq_true_eq, decide_eq_false_iff_not, beq_iff_eq, bne_iff_ne, ne_eq, beq_eq_false_iff_ne, bne_eq_false_iff_eq, Decidable.not_not] at h) <;> try (exfalso; omega)) | refine call (s_l15Bit _) ?_ | refine And.intro (by first | omega | exact ⟨by omega, by omega⟩ | kernel_rfl) ?_ | fail))
    all_goals (refine isR (tup4 ?_ ?_ ?_ ?_) rfl <;> simp [stepF, pairF, bit, minI, maxI, IntKind.wrap_i64, *] <;> (repeat' split) <;> (try dsimp only) <;> first | rfl | omega)
  · refine ac [] [] (fn := Tryd.f18) rfl (by kernel_rfl) [0, 1, 2, 3, 4, 6, 7, 8, 9, 10, 16, 23, 24, 44, 47, 58, 69, 72, 74, 78, 81, 88] ?_
    conv => whnf
    refine ⟨by omega, _, rfl, ?_⟩
    conv => whnf
    refine ⟨by omega, _, rfl, ?_⟩
    (repeat' ((conv => whnf); first | (refine Br_intro (fun h => ?_) (fun h => ?_) <;> (try simp only [Bool.not_eq_true', Bool.not_eq_false', Bool.not_eq_true, Bool.not_eq_false, decide_eq_true_eq, decide_eq_false_iff_not, beq_iff_eq, bne_iff_ne, ne_eq, beq_eq_false_iff_ne, bne_eq_false_iff_eq, Decidable.not_not] at h) <;> try (exfalso; omega)) | refine call (s_l15Bit _) ?_ | refine And.intro (by first | omega | exact ⟨by omega, by omega⟩ | kernel_rfl) ?_ | fail))
    all_goals (refine isR (tup4 ?_ ?_ ?_ ?_) rfl <;> simp [stepF, pairF, bit, minI, maxI, IntKind.wrap_i64, *] <;> (repeat' split) <;> (try dsimp only) <;> first | rfl | omega)
  · refine ac [] [] (fn := Tryd.f18) rfl (by kernel_rfl) [0, 1, 2, 3, 4, 6, 7, 8, 9, 10, 16, 23, 24, 44, 47, 58, 69, 72, 74, 78, 81, 88] ?_
    conv => whnf
    refine ⟨by omega, _, rfl, ?_⟩
    conv => whnf
    refine ⟨by omega, _, rfl, ?_⟩
    (repeat' ((conv => whnf); first | (refine Br_intro (fun h => ?_) (fun h => ?_) <;> (try simp only [Bool.not_eq_true', Bool.not_eq_false', Bool.not_eq_true, Bool.not_eq_false, decide_eq_true_eq, decide_eq_false_iff_not, beq_iff_eq, bne_iff_ne, ne_eq, beq_eq_false_iff_ne, bne_eq_false_iff_eq, Decidable.not_not] at h) <;> try (exfalso; omega)) | refine call (s_l15Bit _) ?_ | refine And.intro (by first | omega | exact ⟨by omega, by omega⟩ | kernel_rfl) ?_ | fail))
    all_goals (refine isR (tup4 ?_ ?_ ?_ ?_) rfl <;> simp [stepF, pairF, bit, minI, maxI, IntKind.wrap_i64, *] <;> (repeat' split) <;> (try dsimp only) <;> first | rfl | omega)
  · refine ac [] [] (fn := Tryd.f18) rfl (by kernel_rfl) [0, 1, 2, 3, 4, 6, 7, 8, 9, 10, 16, 23, 24, 44, 47, 58, 69, 72, 74, 78, 81, 88] ?_
    conv => whnf
    refine ⟨by omega, _, rfl, ?_⟩
    conv => whnf
    refine ⟨by omega, _, rfl, ?_⟩
    (repeat' ((conv => whnf); first | (refine Br_intro (fun h => ?_) (fun h => ?_) <;> (try simp only [Bool.not_eq_true', Bool.not_eq_false', Bool.not_eq_true, Bool.not_eq_false, decide_eq_true_eq, decide_eq_false_iff_not, beq_iff_eq, bne_iff_ne, ne_eq, beq_eq_false_iff_ne, bne_eq_false_iff_eq, Decidable.not_not] at h) <;> try (exfalso; omega)) | refine call (s_l15Bit _) ?_ | refine And.intro (by first | omega | exact ⟨by omega, by omega⟩ | kernel_rfl) ?_ | fail))
    all_goals (refine isR (tup4 ?_ ?_ ?_ ?_) rfl <;> simp [stepF, pairF, bit, minI, maxI, IntKind.wrap_i64, *] <;> (repeat' split) <;> (try dsimp only) <;> first | rfl | omega)
set_option maxHeartbeats 1000000 in
theorem s_step11 (nm : ByteArray) (n : Int) (hn : 0 ≤ n ∧ n ≤ 9999) (a b : Int) (ha : 0 ≤ a ∧ a ≤ n) (hb : 0 ≤ b ∧ b ≤ 1) (x y : Int) (hx : x = 0 ∨ x = 1) (hy : y = 0 ∨ y = 1) :
    A 18 [.agg [I 11, S nm, I n], .agg [I a, I b, I 0], L 1 (ints [x, y])] (VS (stepF 11 n ⟨a, b, 0⟩ x y)) [U3, U3, .undef] := by
  rcases hx with rfl | rfl <;> rcases hy with rfl | rfl
  · refine ac [] [] (fn := Tryd.f18) rfl (by kernel_rfl) [0, 1, 2, 3, 4, 6, 7, 8, 9, 10, 16, 23, 24, 44, 47, 58, 69, 72, 74, 78, 81, 88] ?_
    conv => whnf
    refine ⟨by omega, _, rfl, ?_⟩
    conv => whnf
    refine ⟨by omega, _, rfl, ?_⟩
    (repeat' ((conv => whnf); first | (refine Br_intro (fun h => ?_) (fun h => ?_) <;> (try simp only [Bool.not_eq_true', Bool.not_eq_false', Bool.not_eq_true, Bool.not_eq_false, decide_eq_true_eq, decide_eq_false_iff_not, beq_iff_eq, bne_iff_ne, ne_eq, beq_eq_false_iff_ne, bne_eq_false_iff_eq, Decidable.not_not] at h) <;> try (exfalso; omega)) | refine call (s_l15Bit _) ?_ | refine And.intro (by first | omega | exact ⟨by omega, by omega⟩ | kernel_rfl) ?_ | fail))
    all_goals (refine isR (tup4 ?_ ?_ ?_ ?_) rfl <;> simp [stepF, pairF, bit, minI, maxI, IntKind.wrap_i64, *] <;> (repeat' split) <;> (try dsimp only) <;> first | rfl | omega)
  · refine ac [] [] (fn := Tryd.f18) rfl (by kernel_rfl) [0, 1, 2, 3, 4, 6, 7, 8, 9, 10, 16, 23, 24, 44, 47, 58, 69, 72, 74, 78, 81, 88] ?_
    conv => whnf
    refine ⟨by omega, _, rfl, ?_⟩
    conv => whnf
    refine ⟨by omega, _, rfl, ?_⟩
    (repeat' ((conv => whnf); first | (refine Br_intro (fun h => ?_) (fun h => ?_) <;> (try simp only [Bool.not_eq_true', Bool.not_eq_false', Bool.not_eq_true, Bool.not_eq_false, decide_eq_true_eq, decide_eq_false_iff_not, beq_iff_eq, bne_iff_ne, ne_eq, beq_eq_false_iff_ne, bne_eq_false_iff_eq, Decidable.not_not] at h) <;> try (exfalso; omega)) | refine call (s_l15Bit _) ?_ | refine And.intro (by first | omega | exact ⟨by omega, by omega⟩ | kernel_rfl) ?_ | fail))
    all_goals (refine isR (tup4 ?_ ?_ ?_ ?_) rfl <;> simp [stepF, pairF, bit, minI, maxI, IntKind.wrap_i64, *] <;> (repeat' split) <;> (try dsimp only) <;> first | rfl | omega)
  · refine ac [] [] (fn := Tryd.f18) rfl (by kernel_rfl) [0, 1, 2, 3, 4, 6, 7, 8, 9, 10, 16, 23, 24, 44, 47, 58, 69, 72, 74, 78, 81, 88] ?_
    conv => whnf
    refine ⟨by omega, _, rfl, ?_⟩
    conv => whnf
    refine ⟨by omega, _, rfl, ?_⟩
    (repeat' ((conv => whnf); first | (refine Br_intro (fun h => ?_) (fun h => ?_) <;> (try simp only [Bool.not_eq_true', Bool.not_eq_false', Bool.not_eq_true, Bool.not_eq_false, decide_eq_true_eq, decide_eq_false_iff_not, beq_iff_eq, bne_iff_ne, ne_eq, beq_eq_false_iff_ne, bne_eq_false_iff_eq, Decidable.not_not] at h) <;> try (exfalso; omega)) | refine call (s_l15Bit _) ?_ | refine And.intro (by first | omega | exact ⟨by omega, by omega⟩ | kernel_rfl) ?_ | fail))
    all_goals (refine isR (tup4 ?_ ?_ ?_ ?_) rfl <;> simp [stepF, pairF, bit, minI, maxI, IntKind.wrap_i64, *] <;> (repeat' split) <;> (try dsimp only) <;> first | rfl | omega)
  · refine ac [] [] (fn := Tryd.f18) rfl (by kernel_rfl) [0, 1, 2, 3, 4, 6, 7, 8, 9, 10, 16, 23, 24, 44, 47, 58, 69, 72, 74, 78, 81, 88] ?_
    conv => whnf
    refine ⟨by omega, _, rfl, ?_⟩
    conv => whnf
    refine ⟨by omega, _, rfl, ?_⟩
    (repeat' ((conv => whnf); first | (refine Br_intro (fun h => ?_) (fun h => ?_) <;> (try simp only [Bool.not_eq_true', Bool.not_eq_false', Bool.not_eq_true, Bool.not_eq_false, decide_eq_true_eq, decide_eq_false_iff_not, beq_iff_eq, bne_iff_ne, ne_eq, beq_eq_false_iff_ne, bne_eq_false_iff_eq, Decidable.not_not] at h) <;> try (exfalso; omega)) | refine call (s_l15Bit _) ?_ | refine And.intro (by first | omega | exact ⟨by omega, by omega⟩ | kernel_rfl) ?_ | fail))
    all_goals (refine isR (tup4 ?_ ?_ ?_ ?_) rfl <;> simp [stepF, pairF, bit, minI, maxI, IntKind.wrap_i64, *] <;> (repeat' split) <;> (try dsimp only) <;> first | rfl | omega)
set_option maxHeartbeats 1000000 in
theorem s_step12 (nm : ByteArray) (n : Int) (hn : 0 ≤ n ∧ n ≤ 9999) (a c : Int) (ha : 0 ≤ a ∧ a ≤ n + 1) (hc : c = 0 ∨ c = 1) (x y : Int) (hx : x = 0 ∨ x = 1) (hy : y = 0 ∨ y = 1) :
    A 18 [.agg [I 12, S nm, I n], .agg [I a, I 0, I c], L 1 (ints [x, y])] (VS (stepF 12 n ⟨a, 0, c⟩ x y)) [U3, U3, .undef] := by
  rcases hx with rfl | rfl <;> rcases hy with rfl | rfl
  · refine ac [] [] (fn := Tryd.f18) rfl (by kernel_rfl) [0, 1, 2, 3, 4, 6, 7, 8, 9, 10, 16, 23, 24, 44, 47, 58, 69, 72, 74, 78, 81, 88] ?_
    conv => whnf
    refine ⟨by omega, _, rfl, ?_⟩
    conv => whnf
    refine ⟨by omega, _, rfl, ?_⟩
    (repeat' ((conv => whnf); first | (refine Br_intro (fun h => ?_) (fun h => ?_) <;> (try simp only [Bool.not_eq_true', Bool.not_eq_false', Bool.not_eq_true, Bool.not_eq_false, decide_eq_true_eq, decide_eq_false_iff_not, beq_iff_eq, bne_iff_ne, ne_eq, beq_eq_false_iff_ne, bne_eq_false_iff_eq, Decidable.not_not] at h) <;> try (exfalso; omega)) | refine call (s_l15Bit _) ?_ | refine call (s_l15Pair n hn _ _ _ _ ha hc (by decide) (by decide)) ?_ | refine And.intro (by first | omega | exact ⟨by omega, by omega⟩ | kernel_rfl) ?_ | fail))
    all_goals (refine isR (tup4 ?_ ?_ ?_ ?_) rfl <;> simp [stepF, pairF, bit, minI, maxI, IntKind.wrap_i64, *] <;> (repeat' split) <;> (try dsimp only) <;> first | rfl | omega)
  · refine ac [] [] (fn := Tryd.f18) rfl (by kernel_rfl) [0, 1, 2, 3, 4, 6, 7, 8, 9, 10, 16, 23, 24, 44, 47, 58, 69, 72, 74, 78, 81, 88] ?_
    conv => whnf
    refine ⟨by omega, _, rfl, ?_⟩
    conv => whnf
    refine ⟨by omega, _, rfl, ?_⟩
    (repeat' ((conv => whnf); first | (refine Br_intro (fun h => ?_) (fun h => ?_) <;> (try simp only [Bool.not_eq_true', Bool.not_eq_false', Bool.not_eq_true, Bool.not_eq_false, decide_eq_true_eq, decide_eq_false_iff_not, beq_iff_eq, bne_iff_ne, ne_eq, beq_eq_false_iff_ne, bne_eq_false_iff_eq, Decidable.not_not] at h) <;> try (exfalso; omega)) | refine call (s_l15Bit _) ?_ | refine call (s_l15Pair n hn _ _ _ _ ha hc (by decide) (by decide)) ?_ | refine And.intro (by first | omega | exact ⟨by omega, by omega⟩ | kernel_rfl) ?_ | fail))
    all_goals (refine isR (tup4 ?_ ?_ ?_ ?_) rfl <;> simp [stepF, pairF, bit, minI, maxI, IntKind.wrap_i64, *] <;> (repeat' split) <;> (try dsimp only) <;> first | rfl | omega)
  · refine ac [] [] (fn := Tryd.f18) rfl (by kernel_rfl) [0, 1, 2, 3, 4, 6, 7, 8, 9, 10, 16, 23, 24, 44, 47, 58, 69, 72, 74, 78, 81, 88] ?_
    conv => whnf
    refine ⟨by omega, _, rfl, ?_⟩
    conv => whnf
    refine ⟨by omega, _, rfl, ?_⟩
    (repeat' ((conv => whnf); first | (refine Br_intro (fun h => ?_) (fun h => ?_) <;> (try simp only [Bool.not_eq_true', Bool.not_eq_false', Bool.not_eq_true, Bool.not_eq_false, decide_eq_true_eq, decide_eq_false_iff_not, beq_iff_eq, bne_iff_ne, ne_eq, beq_eq_false_iff_ne, bne_eq_false_iff_eq, Decidable.not_not] at h) <;> try (exfalso; omega)) | refine call (s_l15Bit _) ?_ | refine call (s_l15Pair n hn _ _ _ _ ha hc (by decide) (by decide)) ?_ | refine And.intro (by first | omega | exact ⟨by omega, by omega⟩ | kernel_rfl) ?_ | fail))
    all_goals (refine isR (tup4 ?_ ?_ ?_ ?_) rfl <;> simp [stepF, pairF, bit, minI, maxI, IntKind.wrap_i64, *] <;> (repeat' split) <;> (try dsimp only) <;> first | rfl | omega)
  · refine ac [] [] (fn := Tryd.f18) rfl (by kernel_rfl) [0, 1, 2, 3, 4, 6, 7, 8, 9, 10, 16, 23, 24, 44, 47, 58, 69, 72, 74, 78, 81, 88] ?_
    conv => whnf
    refine ⟨by omega, _, rfl, ?_⟩
    conv => whnf
    refine ⟨by omega, _, rfl, ?_⟩
    (repeat' ((conv => whnf); first | (refine Br_intro (fun h => ?_) (fun h => ?_) <;> (try simp only [Bool.not_eq_true', Bool.not_eq_false', Bool.not_eq_true, Bool.not_eq_false, decide_eq_true_eq, decide_eq_false_iff_not, beq_iff_eq, bne_iff_ne, ne_eq, beq_eq_false_iff_ne, bne_eq_false_iff_eq, Decidable.not_not] at h) <;> try (exfalso; omega)) | refine call (s_l15Bit _) ?_ | refine call (s_l15Pair n hn _ _ _ _ ha hc (by decide) (by decide)) ?_ | refine And.intro (by first | omega | exact ⟨by omega, by omega⟩ | kernel_rfl) ?_ | fail))
    all_goals (refine isR (tup4 ?_ ?_ ?_ ?_) rfl <;> simp [stepF, pairF, bit, minI, maxI, IntKind.wrap_i64, *] <;> (repeat' split) <;> (try dsimp only) <;> first | rfl | omega)
set_option maxHeartbeats 1000000 in
theorem i_stepPair (n : Int) (hn : 0 ≤ n ∧ n ≤ 9999) (a c x y : Int) (ha : 0 ≤ a ∧ a ≤ n + 1) (hc : c = 0 ∨ c = 1) (hx : x = 0 ∨ x = 1) (hy : y = 0 ∨ y = 1) :
    A 42 [I n, .agg [I a, I 0, I c], B (x == 1), B (y == 1)] (VS (pairF n ⟨a, 0, c⟩ x y)) [.undef, U3, .undef, .undef] := by
  rcases hc with rfl | rfl <;> rcases hx with rfl | rfl <;> rcases hy with rfl | rfl
  all_goals
    refine ac [] [] (fn := Tryd.f42) rfl (by kernel_rfl) [0, 1, 2, 3, 5, 8, 9, 20, 30, 43] ?_
    (repeat' ((conv => whnf); first | (refine Br_intro (fun h => ?_) (fun h => ?_) <;> (try simp only [Bool.not_eq_true', Bool.not_eq_false', Bool.not_eq_true, Bool.not_eq_false, decide_eq_true_eq, decide_eq_false_iff_not, beq_iff_eq, bne_iff_ne, ne_eq, beq_eq_false_iff_ne, bne_eq_false_iff_eq, Decidable.not_not] at h) <;> try (exfalso; omega)) | refine call (i_truth _) ?_ | refine And.intro (by first | omega | exact ⟨by omega, by omega⟩ | kernel_rfl) ?_ | fail))
    all_goals (refine isR (tup4 ?_ ?_ ?_ ?_) rfl <;> simp [stepF, pairF, bit, minI, maxI, IntKind.wrap_i64, *] <;> (repeat' split) <;> (try dsimp only) <;> first | rfl | omega)
set_option maxHeartbeats 1000000 in
theorem i_stepCount (n : Int) (hn : 0 ≤ n ∧ n ≤ 9999) (a b x y : Int) (ha : 0 ≤ a ∧ a ≤ n) (hb : 0 ≤ b ∧ b ≤ 1) (hx : x = 0 ∨ x = 1) (hy : y = 0 ∨ y = 1) :
    A 41 [I n, .agg [I a, I b, I 0], B (x == 1), B (y == 1)] (VS (stepF 11 n ⟨a, b, 0⟩ x y)) [.undef, U3, .undef, .undef] := by
  rcases hx with rfl | rfl <;> rcases hy with rfl | rfl
  all_goals
    refine ac [] [] (fn := Tryd.f41) rfl (by kernel_rfl) [0, 1, 2, 3, 5, 8, 9, 10, 17] ?_
    (repeat' ((conv => whnf); first | (refine Br_intro (fun h => ?_) (fun h => ?_) <;> (try simp only [Bool.not_eq_true', Bool.not_eq_false', Bool.not_eq_true, Bool.not_eq_false, decide_eq_true_eq, decide_eq_false_iff_not, beq_iff_eq, bne_iff_ne, ne_eq, beq_eq_false_iff_ne, bne_eq_false_iff_eq, Decidable.not_not] at h) <;> try (exfalso; omega)) | refine call (i_truth _) ?_ | refine And.intro (by first | omega | exact ⟨by omega, by omega⟩ | kernel_rfl) ?_ | fail))
    all_goals (refine isR (tup4 ?_ ?_ ?_ ?_) rfl <;> simp [stepF, pairF, bit, minI, maxI, IntKind.wrap_i64, *] <;> (repeat' split) <;> (try dsimp only) <;> first | rfl | omega)
set_option maxHeartbeats 1000000 in
theorem i_step7 (nm : ByteArray) (n : Int) (hn : 0 ≤ n ∧ n ≤ 9999) (a : Int) (ha : 0 ≤ a ∧ a ≤ n) (x y : Int) (hx : x = 0 ∨ x = 1) (hy : y = 0 ∨ y = 1) :
    A 16 [.agg [I 7, S nm, I n], .agg [I a, I 0, I 0], L 1 (ints [x])] (VS (stepF 7 n ⟨a, 0, 0⟩ x y)) [U3, U3, .undef] := by
  rcases hx with rfl | rfl
  · refine ac [] [] (fn := Tryd.f16) rfl (by kernel_rfl) [0, 1, 2, 3, 4, 6, 7, 8, 9, 10, 11, 12, 27, 28, 48, 50, 65, 79, 81, 83, 88] ?_
    conv => whnf
    refine ⟨by omega, _, rfl, ?_⟩
    refine ⟨by decide, _, rfl, ?_⟩
    (repeat' ((conv => whnf); first | (refine Br_intro (fun h => ?_) (fun h => ?_) <;> (try simp only [Bool.not_eq_true', Bool.not_eq_false', Bool.not_eq_true, Bool.not_eq_false, decide_eq_true_eq, decide_eq_false_iff_not, beq_iff_eq, bne_iff_ne, ne_eq, beq_eq_false_iff_ne, bne_eq_false_iff_eq, Decidable.not_not] at h) <;> try (exfalso; omega)) | refine call (i_truth _) ?_ | refine And.intro (by first | omega | exact ⟨by omega, by omega⟩ | kernel_rfl) ?_ | fail))
    all_goals (refine isR (tup4 ?_ ?_ ?_ ?_) rfl <;> simp [stepF, pairF, bit, minI, maxI, IntKind.wrap_i64, *] <;> (repeat' split) <;> (try dsimp only) <;> first | rfl | omega)
  · refine ac [] [] (fn := Tryd.f16) rfl (by kernel_rfl) [0, 1, 2, 3, 4, 6, 7, 8, 9, 10, 11, 12, 27, 28, 48, 50, 65, 79, 81, 83, 88] ?_
    conv => whnf
    refine ⟨by omega, _, rfl, ?_⟩
    refine ⟨by decide, _, rfl, ?_⟩
    (repeat' ((conv => whnf); first | (refine Br_intro (fun h => ?_) (fun h => ?_) <;> (try simp only [Bool.not_eq_true', Bool.not_eq_false', Bool.not_eq_true, Bool.not_eq_false, decide_eq_true_eq, decide_eq_false_iff_not, beq_iff_eq, bne_iff_ne, ne_eq, beq_eq_false_iff_ne, bne_eq_false_iff_eq, Decidable.not_not] at h) <;> try (exfalso; omega)) | refine call (i_truth _) ?_ | refine And.intro (by first | omega | exact ⟨by omega, by omega⟩ | kernel_rfl) ?_ | fail))
    all_goals (refine isR (tup4 ?_ ?_ ?_ ?_) rfl <;> simp [stepF, pairF, bit, minI, maxI, IntKind.wrap_i64, *] <;> (repeat' split) <;> (try dsimp only) <;> first | rfl | omega)
set_option maxHeartbeats 1000000 in
theorem i_step8 (nm : ByteArray) (n : Int) (hn : 0 ≤ n ∧ n ≤ 9999) (a : Int) (ha : 0 ≤ a ∧ a ≤ n) (x y : Int) (hx : x = 0 ∨ x = 1) (hy : y = 0 ∨ y = 1) :
    A 16 [.agg [I 8, S nm, I n], .agg [I a, I 0, I 0], L 1 (ints [x])] (VS (stepF 8 n ⟨a, 0, 0⟩ x y)) [U3, U3, .undef] := by
  rcases hx with rfl | rfl
  · refine ac [] [] (fn := Tryd.f16) rfl (by kernel_rfl) [0, 1, 2, 3, 4, 6, 7, 8, 9, 10, 11, 12, 27, 28, 48, 50, 65, 79, 81, 83, 88] ?_
    conv => whnf
    refine ⟨by omega, _, rfl, ?_⟩
    refine ⟨by decide, _, rfl, ?_⟩
    (repeat' ((conv => whnf); first | (refine Br_intro (fun h => ?_) (fun h => ?_) <;> (try simp only [Bool.not_eq_true', Bool.not_eq_false', Bool.not_eq_true, Bool.not_eq_false, decide_eq_true_eq, decide_eq_false_iff_not, beq_iff_eq, bne_iff_ne, ne_eq, beq_eq_false_iff_ne, bne_eq_false_iff_eq, Decidable.not_not] at h) <;> try (exfalso; omega)) | refine call (i_truth _) ?_ | refine And.intro (by first | omega | exact ⟨by omega, by omega⟩ | kernel_rfl) ?_ | fail))
    all_goals (refine isR (tup4 ?_ ?_ ?_ ?_) rfl <;> simp [stepF, pairF, bit, minI, maxI, IntKind.wrap_i64, *] <;> (repeat' split) <;> (try dsimp only) <;> first | rfl | omega)
  · refine ac [] [] (fn := Tryd.f16) rfl (by kernel_rfl) [0, 1, 2, 3, 4, 6, 7, 8, 9, 10, 11, 12, 27, 28, 48, 50, 65, 79, 81, 83, 88] ?_
    conv => whnf
    refine ⟨by omega, _, rfl, ?_⟩
    refine ⟨by decide, _, rfl, ?_⟩
    (repeat' ((conv => whnf); first | (refine Br_intro (fun h => ?_) (fun h => ?_) <;> (try simp only [Bool.not_eq_true', Bool.not_eq_false', Bool.not_eq_true, Bool.not_eq_false, decide_eq_true_eq, decide_eq_false_iff_not, beq_iff_eq, bne_iff_ne, ne_eq, beq_eq_false_iff_ne, bne_eq_false_iff_eq, Decidable.not_not] at h) <;> try (exfalso; omega)) | refine call (i_truth _) ?_ | refine And.intro (by first | omega | exact ⟨by omega, by omega⟩ | kernel_rfl) ?_ | fail))
    all_goals (refine isR (tup4 ?_ ?_ ?_ ?_) rfl <;> simp [stepF, pairF, bit, minI, maxI, IntKind.wrap_i64, *] <;> (repeat' split) <;> (try dsimp only) <;> first | rfl | omega)
set_option maxHeartbeats 1000000 in
theorem i_step9 (nm : ByteArray) (n : Int) (hn : 0 ≤ n ∧ n ≤ 9999) (a : Int) (ha : 0 ≤ a ∧ a ≤ 1) (x y : Int) (hx : x = 0 ∨ x = 1) (hy : y = 0 ∨ y = 1) :
    A 16 [.agg [I 9, S nm, I n], .agg [I a, I 0, I 0], L 1 (ints [x])] (VS (stepF 9 n ⟨a, 0, 0⟩ x y)) [U3, U3, .undef] := by
  rcases hx with rfl | rfl
  · refine ac [] [] (fn := Tryd.f16) rfl (by kernel_rfl) [0, 1, 2, 3, 4, 6, 7, 8, 9, 10, 11, 12, 27, 28, 48, 50, 65, 79, 81, 83, 88] ?_
    conv => whnf
    refine ⟨by omega, _, rfl, ?_⟩
    refine ⟨by decide, _, rfl, ?_⟩
    (repeat' ((conv => whnf); first | (refine Br_intro (fun h => ?_) (fun h => ?_) <;> (try simp only [Bool.not_eq_true', Bool.not_eq_false', Bool.not_eq_true, Bool.not_eq_false, decide_eq_true_eq, decide_eq_false_iff_not, beq_iff_eq, bne_iff_ne, ne_eq, beq_eq_false_iff_ne, bne_eq_false_iff_eq, Decidable.not_not] at h) <;> try (exfalso; omega)) | refine call (i_truth _) ?_ | refine And.intro (by first | omega | exact ⟨by omega, by omega⟩ | kernel_rfl) ?_ | fail))
    all_goals (refine isR (tup4 ?_ ?_ ?_ ?_) rfl <;> simp [stepF, pairF, bit, minI, maxI, IntKind.wrap_i64, *] <;> (repeat' split) <;> (try dsimp only) <;> first | rfl | omega)
  · refine ac [] [] (fn := Tryd.f16) rfl (by kernel_rfl) [0, 1, 2, 3, 4, 6, 7, 8, 9, 10, 11, 12, 27, 28, 48, 50, 65, 79, 81, 83, 88] ?_
    conv => whnf
    refine ⟨by omega, _, rfl, ?_⟩
    refine ⟨by decide, _, rfl, ?_⟩
    (repeat' ((conv => whnf); first | (refine Br_intro (fun h => ?_) (fun h => ?_) <;> (try simp only [Bool.not_eq_true', Bool.not_eq_false', Bool.not_eq_true, Bool.not_eq_false, decide_eq_true_eq, decide_eq_false_iff_not, beq_iff_eq, bne_iff_ne, ne_eq, beq_eq_false_iff_ne, bne_eq_false_iff_eq, Decidable.not_not] at h) <;> try (exfalso; omega)) | refine call (i_truth _) ?_ | refine And.intro (by first | omega | exact ⟨by omega, by omega⟩ | kernel_rfl) ?_ | fail))
    all_goals (refine isR (tup4 ?_ ?_ ?_ ?_) rfl <;> simp [stepF, pairF, bit, minI, maxI, IntKind.wrap_i64, *] <;> (repeat' split) <;> (try dsimp only) <;> first | rfl | omega)
set_option maxHeartbeats 1000000 in
theorem i_step10 (nm : ByteArray) (n : Int) (hn : 0 ≤ n ∧ n ≤ 9999) (a : Int) (ha : 0 ≤ a ∧ a ≤ 1) (x y : Int) (hx : x = 0 ∨ x = 1) (hy : y = 0 ∨ y = 1) :
    A 16 [.agg [I 10, S nm, I n], .agg [I a, I 0, I 0], L 1 (ints [x, y])] (VS (stepF 10 n ⟨a, 0, 0⟩ x y)) [U3, U3, .undef] := by
  rcases hx with rfl | rfl <;> rcases hy with rfl | rfl
  · refine ac [] [] (fn := Tryd.f16) rfl (by kernel_rfl) [0, 1, 2, 3, 4, 6, 7, 8, 9, 10, 11, 12, 27, 28, 48, 50, 65, 79, 81, 83, 88] ?_
    conv => whnf
    refine ⟨by omega, _, rfl, ?_⟩
    refine ⟨by decide, _, rfl, ?_⟩
    (repeat' ((conv => whnf); first | (refine Br_intro (fun h => ?_) (fun h => ?_) <;> (try simp only [Bool.not_eq_true', Bool.not_eq_false', Bool.not_eq_true, Bool.not_eq_false, decide_eq_true_eq, decide_eq_false_iff_not, beq_iff_eq, bne_iff_ne, ne_eq, beq_eq_false_iff_ne, bne_eq_false_iff_eq, Decidable.not_not] at h) <;> try (exfalso; omega)) | refine call (i_truth _) ?_ | refine And.intro (by first | omega | exact ⟨by omega, by omega⟩ | kernel_rfl) ?_ | fail))
    all_goals (refine isR (tup4 ?_ ?_ ?_ ?_) rfl <;> simp [stepF, pairF, bit, minI, maxI, IntKind.wrap_i64, *] <;> (repeat' split) <;> (try dsimp only) <;> first | rfl | omega)
  · refine ac [] [] (fn := Tryd.f16) rfl (by kernel_rfl) [0, 1, 2, 3, 4, 6, 7, 8, 9, 10, 11, 12, 27, 28, 48, 50, 65, 79, 81, 83, 88] ?_
    conv => whnf
    refine ⟨by omega, _, rfl, ?_⟩
    refine ⟨by decide, _, rfl, ?_⟩
    (repeat' ((conv => whnf); first | (refine Br_intro (fun h => ?_) (fun h => ?_) <;> (try simp only [Bool.not_eq_true', Bool.not_eq_false', Bool.not_eq_true, Bool.not_eq_false, decide_eq_true_eq, decide_eq_false_iff_not, beq_iff_eq, bne_iff_ne, ne_eq, beq_eq_false_iff_ne, bne_eq_false_iff_eq, Decidable.not_not] at h) <;> try (exfalso; omega)) | refine call (i_truth _) ?_ | refine And.intro (by first | omega | exact ⟨by omega, by omega⟩ | kernel_rfl) ?_ | fail))
    all_goals (refine isR (tup4 ?_ ?_ ?_ ?_) rfl <;> simp [stepF, pairF, bit, minI, maxI, IntKind.wrap_i64, *] <;> (repeat' split) <;> (try dsimp only) <;> first | rfl | omega)
  · refine ac [] [] (fn := Tryd.f16) rfl (by kernel_rfl) [0, 1, 2, 3, 4, 6, 7, 8, 9, 10, 11, 12, 27, 28, 48, 50, 65, 79, 81, 83, 88] ?_
    conv => whnf
    refine ⟨by omega, _, rfl, ?_⟩
    refine ⟨by decide, _, rfl, ?_⟩
    (repeat' ((conv => whnf); first | (refine Br_intro (fun h => ?_) (fun h => ?_) <;> (try simp only [Bool.not_eq_true', Bool.not_eq_false', Bool.not_eq_true, Bool.not_eq_false, decide_eq_true_eq, decide_eq_false_iff_not, beq_iff_eq, bne_iff_ne, ne_eq, beq_eq_false_iff_ne, bne_eq_false_iff_eq, Decidable.not_not] at h) <;> try (exfalso; omega)) | refine call (i_truth _) ?_ | refine And.intro (by first | omega | exact ⟨by omega, by omega⟩ | kernel_rfl) ?_ | fail))
    all_goals (refine isR (tup4 ?_ ?_ ?_ ?_) rfl <;> simp [stepF, pairF, bit, minI, maxI, IntKind.wrap_i64, *] <;> (repeat' split) <;> (try dsimp only) <;> first | rfl | omega)
  · refine ac [] [] (fn := Tryd.f16) rfl (by kernel_rfl) [0, 1, 2, 3, 4, 6, 7, 8, 9, 10, 11, 12, 27, 28, 48, 50, 65, 79, 81, 83, 88] ?_
    conv => whnf
    refine ⟨by omega, _, rfl, ?_⟩
    refine ⟨by decide, _, rfl, ?_⟩
    (repeat' ((conv => whnf); first | (refine Br_intro (fun h => ?_) (fun h => ?_) <;> (try simp only [Bool.not_eq_true', Bool.not_eq_false', Bool.not_eq_true, Bool.not_eq_false, decide_eq_true_eq, decide_eq_false_iff_not, beq_iff_eq, bne_iff_ne, ne_eq, beq_eq_false_iff_ne, bne_eq_false_iff_eq, Decidable.not_not] at h) <;> try (exfalso; omega)) | refine call (i_truth _) ?_ | refine And.intro (by first | omega | exact ⟨by omega, by omega⟩ | kernel_rfl) ?_ | fail))
    all_goals (refine isR (tup4 ?_ ?_ ?_ ?_) rfl <;> simp [stepF, pairF, bit, minI, maxI, IntKind.wrap_i64, *] <;> (repeat' split) <;> (try dsimp only) <;> first | rfl | omega)
set_option maxHeartbeats 1000000 in
theorem i_step11 (nm : ByteArray) (n : Int) (hn : 0 ≤ n ∧ n ≤ 9999) (a b : Int) (ha : 0 ≤ a ∧ a ≤ n) (hb : 0 ≤ b ∧ b ≤ 1) (x y : Int) (hx : x = 0 ∨ x = 1) (hy : y = 0 ∨ y = 1) :
    A 16 [.agg [I 11, S nm, I n], .agg [I a, I b, I 0], L 1 (ints [x, y])] (VS (stepF 11 n ⟨a, b, 0⟩ x y)) [U3, U3, .undef] := by
  rcases hx with rfl | rfl <;> rcases hy with rfl | rfl
  · refine ac [] [] (fn := Tryd.f16) rfl (by kernel_rfl) [0, 1, 2, 3, 4, 6, 7, 8, 9, 10, 11, 12, 27, 28, 48, 50, 65, 79, 81, 83, 88] ?_
    conv => whnf
    refine ⟨by omega, _, rfl, ?_⟩
    refine ⟨by decide, _, rfl, ?_⟩
    (repeat' ((conv => whnf); first | (refine Br_intro (fun h => ?_) (fun h => ?_) <;> (try simp only [Bool.not_eq_true', Bool.not_eq_false', Bool.not_eq_true, Bool.not_eq_false, decide_eq_true_eq, decide_eq_false_iff_not, beq_iff_eq, bne_iff_ne, ne_eq, beq_eq_false_iff_ne, bne_eq_false_iff_eq, Decidable.not_not] at h) <;> try (exfalso; omega)) | refine call (i_truth _) ?_ | refine call (i_stepCount n hn a b 0 0 ha hb (by decide) (by decide)) ?_ | refine And.intro (by first | omega | exact ⟨by omega, by omega⟩ | kernel_rfl) ?_ | fail))
    all_goals (refine isR (tup4 ?_ ?_ ?_ ?_) rfl <;> simp [stepF, pairF, bit, minI, maxI, IntKind.wrap_i64, *] <;> (repeat' split) <;> (try dsimp only) <;> first | rfl | omega)
  · refine ac [] [] (fn := Tryd.f16) rfl (by kernel_rfl) [0, 1, 2, 3, 4, 6, 7, 8, 9, 10, 11, 12, 27, 28, 48, 50, 65, 79, 81, 83, 88] ?_
    conv => whnf
    refine ⟨by omega, _, rfl, ?_⟩
    refine ⟨by decide, _, rfl, ?_⟩
    (repeat' ((conv => whnf); first | (refine Br_intro (fun h => ?_) (fun h => ?_) <;> (try simp only [Bool.not_eq_true', Bool.not_eq_false', Bool.not_eq_true, Bool.not_eq_false, decide_eq_true_eq, decide_eq_false_iff_not, beq_iff_eq, bne_iff_ne, ne_eq, beq_eq_false_iff_ne, bne_eq_false_iff_eq, Decidable.not_not] at h) <;> try (exfalso; omega)) | refine call (i_truth _) ?_ | refine call (i_stepCount n hn a b 0 1 ha hb (by decide) (by decide)) ?_ | refine And.intro (by first | omega | exact ⟨by omega, by omega⟩ | kernel_rfl) ?_ | fail))
    all_goals (refine isR (tup4 ?_ ?_ ?_ ?_) rfl <;> simp [stepF, pairF, bit, minI, maxI, IntKind.wrap_i64, *] <;> (repeat' split) <;> (try dsimp only) <;> first | rfl | omega)
  · refine ac [] [] (fn := Tryd.f16) rfl (by kernel_rfl) [0, 1, 2, 3, 4, 6, 7, 8, 9, 10, 11, 12, 27, 28, 48, 50, 65, 79, 81, 83, 88] ?_
    conv => whnf
    refine ⟨by omega, _, rfl, ?_⟩
    refine ⟨by decide, _, rfl, ?_⟩
    (repeat' ((conv => whnf); first | (refine Br_intro (fun h => ?_) (fun h => ?_) <;> (try simp only [Bool.not_eq_true', Bool.not_eq_false', Bool.not_eq_true, Bool.not_eq_false, decide_eq_true_eq, decide_eq_false_iff_not, beq_iff_eq, bne_iff_ne, ne_eq, beq_eq_false_iff_ne, bne_eq_false_iff_eq, Decidable.not_not] at h) <;> try (exfalso; omega)) | refine call (i_truth _) ?_ | refine call (i_stepCount n hn a b 1 0 ha hb (by decide) (by decide)) ?_ | refine And.intro (by first | omega | exact ⟨by omega, by omega⟩ | kernel_rfl) ?_ | fail))
    all_goals (refine isR (tup4 ?_ ?_ ?_ ?_) rfl <;> simp [stepF, pairF, bit, minI, maxI, IntKind.wrap_i64, *] <;> (repeat' split) <;> (try dsimp only) <;> first | rfl | omega)
  · refine ac [] [] (fn := Tryd.f16) rfl (by kernel_rfl) [0, 1, 2, 3, 4, 6, 7, 8, 9, 10, 11, 12, 27, 28, 48, 50, 65, 79, 81, 83, 88] ?_
    conv => whnf
    refine ⟨by omega, _, rfl, ?_⟩
    refine ⟨by decide, _, rfl, ?_⟩
    (repeat' ((conv => whnf); first | (refine Br_intro (fun h => ?_) (fun h => ?_) <;> (try simp only [Bool.not_eq_true', Bool.not_eq_false', Bool.not_eq_true, Bool.not_eq_false, decide_eq_true_eq, decide_eq_false_iff_not, beq_iff_eq, bne_iff_ne, ne_eq, beq_eq_false_iff_ne, bne_eq_false_iff_eq, Decidable.not_not] at h) <;> try (exfalso; omega)) | refine call (i_truth _) ?_ | refine call (i_stepCount n hn a b 1 1 ha hb (by decide) (by decide)) ?_ | refine And.intro (by first | omega | exact ⟨by omega, by omega⟩ | kernel_rfl) ?_ | fail))
    all_goals (refine isR (tup4 ?_ ?_ ?_ ?_) rfl <;> simp [stepF, pairF, bit, minI, maxI, IntKind.wrap_i64, *] <;> (repeat' split) <;> (try dsimp only) <;> first | rfl | omega)
set_option maxHeartbeats 1000000 in
theorem i_step12 (nm : ByteArray) (n : Int) (hn : 0 ≤ n ∧ n ≤ 9999) (a c : Int) (ha : 0 ≤ a ∧ a ≤ n + 1) (hc : c = 0 ∨ c = 1) (x y : Int) (hx : x = 0 ∨ x = 1) (hy : y = 0 ∨ y = 1) :
    A 16 [.agg [I 12, S nm, I n], .agg [I a, I 0, I c], L 1 (ints [x, y])] (VS (stepF 12 n ⟨a, 0, c⟩ x y)) [U3, U3, .undef] := by
  rcases hx with rfl | rfl <;> rcases hy with rfl | rfl
  · refine ac [] [] (fn := Tryd.f16) rfl (by kernel_rfl) [0, 1, 2, 3, 4, 6, 7, 8, 9, 10, 11, 12, 27, 28, 48, 50, 65, 79, 81, 83, 88] ?_
    conv => whnf
    refine ⟨by omega, _, rfl, ?_⟩
    refine ⟨by decide, _, rfl, ?_⟩
    (repeat' ((conv => whnf); first | (refine Br_intro (fun h => ?_) (fun h => ?_) <;> (try simp only [Bool.not_eq_true', Bool.not_eq_false', Bool.not_eq_true, Bool.not_eq_false, decide_eq_true_eq, decide_eq_false_iff_not, beq_iff_eq, bne_iff_ne, ne_eq, beq_eq_false_iff_ne, bne_eq_false_iff_eq, Decidable.not_not] at h) <;> try (exfalso; omega)) | refine call (i_truth _) ?_ | refine call (i_stepPair n hn a c 0 0 ha hc (by decide) (by decide)) ?_ | refine And.intro (by first | omega | exact ⟨by omega, by omega⟩ | kernel_rfl) ?_ | fail))
    all_goals (refine isR (tup4 ?_ ?_ ?_ ?_) rfl <;> simp [stepF, pairF, bit, minI, maxI, IntKind.wrap_i64, *] <;> (repeat' split) <;> (try dsimp only) <;> first | rfl | omega)
  · refine ac [] [] (fn := Tryd.f16) rfl (by kernel_rfl) [0, 1, 2, 3, 4, 6, 7, 8, 9, 10, 11, 12, 27, 28, 48, 50, 65, 79, 81, 83, 88] ?_
    conv => whnf
    refine ⟨by omega, _, rfl, ?_⟩
    refine ⟨by decide, _, rfl, ?_⟩
    (repeat' ((conv => whnf); first | (refine Br_intro (fun h => ?_) (fun h => ?_) <;> (try simp only [Bool.not_eq_true', Bool.not_eq_false', Bool.not_eq_true, Bool.not_eq_false, decide_eq_true_eq, decide_eq_false_iff_not, beq_iff_eq, bne_iff_ne, ne_eq, beq_eq_false_iff_ne, bne_eq_false_iff_eq, Decidable.not_not] at h) <;> try (exfalso; omega)) | refine call (i_truth _) ?_ | refine call (i_stepPair n hn a c 0 1 ha hc (by decide) (by decide)) ?_ | refine And.intro (by first | omega | exact ⟨by omega, by omega⟩ | kernel_rfl) ?_ | fail))
    all_goals (refine isR (tup4 ?_ ?_ ?_ ?_) rfl <;> simp [stepF, pairF, bit, minI, maxI, IntKind.wrap_i64, *] <;> (repeat' split) <;> (try dsimp only) <;> first | rfl | omega)
  · refine ac [] [] (fn := Tryd.f16) rfl (by kernel_rfl) [0, 1, 2, 3, 4, 6, 7, 8, 9, 10, 11, 12, 27, 28, 48, 50, 65, 79, 81, 83, 88] ?_
    conv => whnf
    refine ⟨by omega, _, rfl, ?_⟩
    refine ⟨by decide, _, rfl, ?_⟩
    (repeat' ((conv => whnf); first | (refine Br_intro (fun h => ?_) (fun h => ?_) <;> (try simp only [Bool.not_eq_true', Bool.not_eq_false', Bool.not_eq_true, Bool.not_eq_false, decide_eq_true_eq, decide_eq_false_iff_not, beq_iff_eq, bne_iff_ne, ne_eq, beq_eq_false_iff_ne, bne_eq_false_iff_eq, Decidable.not_not] at h) <;> try (exfalso; omega)) | refine call (i_truth _) ?_ | refine call (i_stepPair n hn a c 1 0 ha hc (by decide) (by decide)) ?_ | refine And.intro (by first | omega | exact ⟨by omega, by omega⟩ | kernel_rfl) ?_ | fail))
    all_goals (refine isR (tup4 ?_ ?_ ?_ ?_) rfl <;> simp [stepF, pairF, bit, minI, maxI, IntKind.wrap_i64, *] <;> (repeat' split) <;> (try dsimp only) <;> first | rfl | omega)
  · refine ac [] [] (fn := Tryd.f16) rfl (by kernel_rfl) [0, 1, 2, 3, 4, 6, 7, 8, 9, 10, 11, 12, 27, 28, 48, 50, 65, 79, 81, 83, 88] ?_
    conv => whnf
    refine ⟨by omega, _, rfl, ?_⟩
    refine ⟨by decide, _, rfl, ?_⟩
    (repeat' ((conv => whnf); first | (refine Br_intro (fun h => ?_) (fun h => ?_) <;> (try simp only [Bool.not_eq_true', Bool.not_eq_false', Bool.not_eq_true, Bool.not_eq_false, decide_eq_true_eq, decide_eq_false_iff_not, beq_iff_eq, bne_iff_ne, ne_eq, beq_eq_false_iff_ne, bne_eq_false_iff_eq, Decidable.not_not] at h) <;> try (exfalso; omega)) | refine call (i_truth _) ?_ | refine call (i_stepPair n hn a c 1 1 ha hc (by decide) (by decide)) ?_ | refine And.intro (by first | omega | exact ⟨by omega, by omega⟩ | kernel_rfl) ?_ | fail))
    all_goals (refine isR (tup4 ?_ ?_ ?_ ?_) rfl <;> simp [stepF, pairF, bit, minI, maxI, IntKind.wrap_i64, *] <;> (repeat' split) <;> (try dsimp only) <;> first | rfl | omega)
end Go.Proofs.YtaklcemgpinleaaDoor
