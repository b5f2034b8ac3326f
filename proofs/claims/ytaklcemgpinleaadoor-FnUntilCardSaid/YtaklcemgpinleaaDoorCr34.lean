/- Contracts of blocks: the program's ScansUntil and StepBlock. -/
import Derived.Test.YtaklcemgpinleaaDoorCr33
import Derived.Test.YtaklcemgpinleaaDoorCr301
namespace Go.Proofs.YtaklcemgpinleaaDoor
open Go
set_option linter.unusedSimpArgs false
set_option linter.unusedVariables false
set_option linter.unnecessarySimpa false
set_option linter.unusedSectionVars false
set_option maxRecDepth 100000
theorem bs_eq {a b c : Int} {s : Bs} : ((a == s.a) && ((b == s.b) && ((c == s.c) && true))) = decide ((⟨a, b, c⟩ : Bs) = s) := by
  obtain ⟨x, y, z⟩ := s
  by_cases h1 : a = x <;> by_cases h2 : b = y <;> by_cases h3 : c = z <;> simp [h1, h2, h3]
set_option maxHeartbeats 1000000 in
theorem i_StepBlock (t : Tm) (hs : t.s.size < 4611686018427387904) (s : Bs) (xs : List Int) (hx : xs.length < 9223372036854775807) :
    (codeOf t s [xs] ≠ 0 → A 13 [T t, BS s, L 1 (ints xs)] (.tup [I 0, BS ⟨0, 0, 0⟩, I (codeOf t s [xs])]) [U3, U3, .undef]) ∧
    ∀ x y, codeOf t s [xs] = 0 → xs = argL t.k x y → (x = 0 ∨ x = 1) → (y = 0 ∨ y = 1) → A 13 [T t, BS s, L 1 (ints xs)] (.tup [I (stepF t.k t.n s x y).1, BS (stepF t.k t.n s x y).2, I 0]) [U3, U3, .undef] := by
  have hcode := i_stepCode t hs s [xs] (by simp) (fun z hz => by simp at hz; rw [hz]; exact hx)
  refine ⟨fun h0 => ?_, fun x y h0 hxy kx ky => ?_⟩
  · refine ac [] [] (fn := Tryd.f13) rfl (by kernel_rfl) [0, 1, 2, 3, 4, 6, 7, 8, 9, 10, 11, 18] ?_
    conv => whnf
    refine call hcode ?_
    conv => whnf
    refine Br_true (by simpa using h0) ?_
    conv => whnf
    refine isR rfl rfl
  · obtain ⟨hB, hP, _⟩ := code_zero h0
    subst hxy
    refine ac [] [] (fn := Tryd.f13) rfl (by kernel_rfl) [0, 1, 2, 3, 4, 6, 7, 8, 9, 10, 11, 18] ?_
    conv => whnf
    refine call hcode ?_
    conv => whnf
    refine Br_false (by simpa using h0) ?_
    conv => whnf
    refine call (i_step t s x y hB hP kx ky) ?_
    refine And.intro (by kernel_rfl) ?_
    conv => whnf
    refine isR rfl rfl
set_option maxHeartbeats 1000000 in
theorem i_ScansUntil (t : Tm) (hs : t.s.size < 4611686018427387904) (s : Bs) (xs : List Int) (hx : xs.length < 9223372036854775807) :
    A 6 [T t, BS s, L 1 (ints xs)] (.tup [I (untilO t s xs).1, I (untilO t s xs).2]) [U3, U3, .undef] := by
  generalize hR : untilO t s xs = R
  have hcode := i_stepCode t hs s [xs] (by simp) (fun z hz => by simp at hz; rw [hz]; exact hx)
  refine ac [] [] (fn := Tryd.f6) rfl (by kernel_rfl) [0, 1, 2, 3, 4, 6, 7, 8, 9, 10, 11, 18, 29, 33] ?_
  conv => whnf
  refine call hcode ?_
  conv => whnf
  refine Br_intro (fun h1 => ?_) (fun h1 => ?_)
  · conv => whnf
    refine isR ?_ rfl
    have : codeOf t s [xs] ≠ 0 := by simpa using h1
    simp [← hR, untilO, this]
  · have h0 : codeOf t s [xs] = 0 := by simpa using h1
    obtain ⟨hB, hP, x, y, kx, ky, rfl⟩ := code_zero h0
    obtain ⟨M, hM⟩ : ∃ M : Nat, M = 10002 := ⟨_, rfl⟩
    have hu : untilF (fun s => stepF t.k t.n s x y) M s 1 = R := by
      rw [← hR, hM, untilO, if_pos h0]; congr 1; funext s; exact stepF_arg.symm
    have hml := meas_le (x := x) (y := y) hB hP
    refine lp (fun i : Nat × Bs => i.1 + meas t x y i.2 + 1 ≤ M ∧ possB t i.2 = true ∧ R = untilF (fun s => stepF t.k t.n s x y) (M - i.1) i.2 (i.1 + 1))
      (fun i => ⟨[(0, T t), (1, BS s), (2, L 1 (ints (argL t.k x y))), (3, .ptr (.site 3) 0), (4, .ptr (.site 4) 0), (6, I 0), (7, I 0), (8, .undef), (9, I (i.1 + 1)), (10, .undef), (11, .undef), (18, .undef), (29, .undef), (33, .undef)], [(.site 3, .box [I t.k, S t.s, I t.n]), (.site 4, .box [I i.2.a, I i.2.b, I i.2.c])], [(0, T t), (1, BS s)]⟩)
      (fun i => M - i.1) ⟨(0, s), [], [], ⟨by dsimp only; omega, hP, hu.symm⟩, ?_⟩ (fun i hI => ?_)
    · (refine And.intro trivial (And.intro rfl ?_); repeat' (first | exact trivial | exact rfl | refine And.intro ?_ ?_ | (refine fitI ?_; ((repeat rw [wrap_id (by omega) (by omega)]) <;> first | rfl | omega))))
    · obtain ⟨j, s1⟩ := i
      obtain ⟨g1, g2, g3⟩ := hI
      dsimp only at g1 g2 g3
      obtain ⟨q1, q2⟩ := step_poss hB g2 kx ky
      have hj : M - j = (M - (j + 1)) + 1 := by omega
      have hmt := meas_lt hB g2 kx ky
      have hfix := untilF_fix (f := fun s => stepF t.k t.n s x y) (s := s1)
      conv => whnf
      refine call (i_step t s1 x y hB g2 kx ky) ?_
      conv => whnf
      refine Br_intro (fun h3 => ?_) (fun h3 => ?_)
      · have h3' : (stepF t.k t.n s1 x y).1 = 1 := by simpa using h3
        rw [hj, untilF, if_pos h3'] at g3
        conv => whnf
        refine isR ?_ rfl
        rw [g3]
      · have h3' : ¬ (stepF t.k t.n s1 x y).1 = 1 := by simpa using h3
        conv => whnf
        refine Br_intro (fun h4 => ?_) (fun h4 => ?_)
        · have h4' : (stepF t.k t.n s1 x y).2 = s1 := by
            have := bs_eq.symm.trans h4
            simpa using this
          rw [hfix h3' h4'] at g3
          conv => whnf
          refine isR ?_ rfl
          rw [g3]
        · have h4' : (stepF t.k t.n s1 x y).2 ≠ s1 := by
            have := bs_eq.symm.trans h4
            simpa using this
          have h5 : meas t x y (stepF t.k t.n s1 x y).2 < meas t x y s1 := by
            rcases hmt with h | h | h
            · exact absurd h h3'
            · exact absurd h h4'
            · exact h
          rw [hj, untilF, if_neg h3'] at g3
          refine ⟨(j + 1, (stepF t.k t.n s1 x y).2), [], [], ⟨by dsimp only; omega, q1, ?_⟩, ?_, ?_⟩
          · dsimp only; rw [g3]; congr 1
          · dsimp only; omega
          · (refine And.intro trivial (And.intro rfl ?_); repeat' (first | exact trivial | exact rfl | refine And.intro ?_ ?_ | (refine fitI ?_; ((repeat rw [wrap_id (by omega) (by omega)]) <;> first | rfl | omega))))
end Go.Proofs.YtaklcemgpinleaaDoor
