/- Contracts of blocks: how many scans until the value is 1. -/
import Derived.Test.YtaklcemgpinleaaDoorCr32
import Derived.Test.YtaklcemgpinleaaDoorCr301
namespace Go.Proofs.YtaklcemgpinleaaDoor
open Go
set_option linter.unusedSimpArgs false
set_option linter.unusedVariables false
set_option linter.unnecessarySimpa false
set_option linter.unusedSectionVars false
set_option maxRecDepth 100000
def untilF (f : Bs → Int × Bs) : Nat → Bs → Int → Int × Int
  | 0, _, _ => (0, 4)
  | m + 1, s, n => if (f s).1 = 1 then (n, 0) else untilF f m (f s).2 (n + 1)
theorem untilF_fix {f : Bs → Int × Bs} {s : Bs} (h1 : (f s).1 ≠ 1) (h2 : (f s).2 = s) : ∀ (m : Nat) (n : Int), untilF f m s n = (0, 4)
  | 0, _ => rfl
  | m + 1, n => by rw [untilF, if_neg h1, h2, untilF_fix h1 h2 m]
/-- a measure of a state under arguments that stay -/
def meas (t : Tm) (x y : Int) (s : Bs) : Nat :=
  if t.k = 7 then (if x = 1 then (t.n - s.a).toNat else s.a.toNat)
  else if t.k = 8 then 0
  else if t.k = 9 then s.a.toNat
  else if t.k = 10 then s.a.toNat
  else if t.k = 11 then (if s.b = x then 0 else 1) + (if y = 1 ∧ s.a ≠ 0 then 1 else 0)
  else if x = y then (s.a + s.c).toNat else (t.n + 1 - s.a).toNat
theorem meas_le {t : Tm} {s : Bs} {x y : Int} (hB : blockB t = true) (hP : possB t s = true) : meas t x y s ≤ 10001 := by
  obtain ⟨h1, h2, h3, h4⟩ := block_facts hB
  obtain ⟨k, nm, n⟩ := t
  obtain ⟨a, b, c⟩ := s
  dsimp only at *
  rcases kinds h1 h2 with rfl | rfl | rfl | rfl | rfl | rfl <;> simp [possB, inR, meas] at hP ⊢ <;> (repeat' split) <;> omega
theorem meas_lt {t : Tm} {s : Bs} {x y : Int} (hB : blockB t = true) (hP : possB t s = true) (hx : x = 0 ∨ x = 1) (hy : y = 0 ∨ y = 1) :
    (stepF t.k t.n s x y).1 = 1 ∨ (stepF t.k t.n s x y).2 = s ∨ meas t x y (stepF t.k t.n s x y).2 < meas t x y s := by
  obtain ⟨h1, h2, h3, h4⟩ := block_facts hB
  obtain ⟨k, nm, n⟩ := t
  obtain ⟨a, b, c⟩ := s
  dsimp only at *
  rcases kinds h1 h2 with rfl | rfl | rfl | rfl | rfl | rfl <;> simp [possB, inR, stepF, pairF, meas] at hP ⊢ <;> rcases hx with rfl | rfl <;> rcases hy with rfl | rfl <;> (try simp) <;> (repeat' split) <;> (try dsimp only at *) <;> (try simp) <;> (try omega)
/-- the answer of ScansUntil -/
def untilO (t : Tm) (s : Bs) (xs : List Int) : Int × Int :=
  if codeOf t s [xs] = 0 then untilF (fun s => stepF t.k t.n s (xs.getD 0 0) (xs.getD 1 0)) 10002 s 1 else (0, codeOf t s [xs])
theorem code_zero {t : Tm} {s : Bs} {xs : List Int} (h : codeOf t s [xs] = 0) : blockB t = true ∧ possB t s = true ∧ ∃ x y, (x = 0 ∨ x = 1) ∧ (y = 0 ∨ y = 1) ∧ xs = argL t.k x y := by
  simp only [codeOf] at h
  split at h
  · rename_i hB
    split at h
    · rename_i hP
      simp only [List.all_cons, List.all_nil, Bool.and_true, Bool.and_eq_true] at hP
      obtain ⟨h1, h2, _⟩ := block_facts hB
      exact ⟨hB, hP.1, bits_args h1 h2 hP.2⟩
    · cases h
  · cases h
theorem stepF_arg {k n : Int} {s : Bs} {x y : Int} : stepF k n s ((argL k x y).getD 0 0) ((argL k x y).getD 1 0) = stepF k n s x y := by
  by_cases h : k = 7 ∨ k = 8 ∨ k = 9
  · rw [argL, if_pos h]
    rcases h with rfl | rfl | rfl <;> rfl
  · rw [argL, if_neg h]; rfl
set_option maxHeartbeats 1000000 in
theorem s_ScansUntil (t : Tm) (hs : t.s.size < 4611686018427387904) (s : Bs) (xs : List Int) (hx : xs.length < 9223372036854775807) :
    A 7 [T t, BS s, L 1 (ints xs)] (.tup [I (untilO t s xs).1, I (untilO t s xs).2]) [U3, U3, .undef] := by
  generalize hR : untilO t s xs = R
  refine ac [] [] (fn := Tryd.f7) rfl (by kernel_rfl) [0, 1, 2, 3, 4, 6, 7, 8, 9, 10, 11, 17, 20, 31] ?_
  conv => whnf
  refine call (s_l15Code t hs s xs hx) ?_
  conv => whnf
  refine Br_intro (fun h1 => ?_) (fun h1 => ?_)
  · conv => whnf
    refine isR ?_ rfl
    have : codeOf t s [xs] ≠ 0 := by simpa using h1
    simp [← hR, untilO, this]
  · have h0 : codeOf t s [xs] = 0 := by simpa using h1
    obtain ⟨hB, hP, x, y, kx, ky, rfl⟩ := code_zero h0
    obtain ⟨M, hM⟩ : ∃ M : Nat, M = 10002 := ⟨_, rfl⟩
    have hu : untilF (fun s => stepF t.k t.n s x y) M s 1 = R := by
      rw [← hR, hM, untilO, if_pos h0]; congr 1; funext s; exact stepF_arg.symm
    refine lp (fun i : Nat × Bs => i.1 ≤ M ∧ possB t i.2 = true ∧ R = untilF (fun s => stepF t.k t.n s x y) (M - i.1) i.2 (i.1 + 1))
      (fun i => ⟨[(0, T t), (1, BS s), (2, L 1 (ints (argL t.k x y))), (3, .ptr (.site 3) 0), (4, .ptr (.site 4) 0), (6, I 0), (7, I 0), (8, .undef), (9, I (i.1 + 1)), (10, .undef), (11, .undef), (17, .undef), (20, .undef), (31, .undef)], [(.site 3, .box [I t.k, S t.s, I t.n]), (.site 4, .box [I i.2.a, I i.2.b, I i.2.c])], [(0, T t), (1, BS s)]⟩)
      (fun i => M - i.1) ⟨(0, s), [], [], ⟨by omega, hP, hu.symm⟩, ?_⟩ (fun i hI => ?_)
    · (refine And.intro trivial (And.intro rfl ?_); repeat' (first | exact trivial | exact rfl | refine And.intro ?_ ?_ | (refine fitI ?_; ((repeat rw [wrap_id (by omega) (by omega)]) <;> first | rfl | omega))))
    · obtain ⟨j, s1⟩ := i
      obtain ⟨g1, g2, g3⟩ := hI
      dsimp only at g1 g2 g3
      obtain ⟨q1, q2⟩ := step_poss hB g2 kx ky
      conv => whnf
      refine Br_intro (fun h2 => ?_) (fun h2 => ?_)
      · simp only [decide_eq_true_eq] at h2
        have hj : M - j = (M - (j + 1)) + 1 := by omega
        rw [hj, untilF] at g3
        conv => whnf
        refine call (s_l15Step t s1 x y hB g2 kx ky) ?_
        conv => whnf
        refine Br_intro (fun h3 => ?_) (fun h3 => ?_)
        · have h3' : (stepF t.k t.n s1 x y).1 = 1 := by simpa using h3
          rw [if_pos h3'] at g3
          conv => whnf
          refine isR ?_ rfl
          rw [g3]
        · have h3' : ¬ (stepF t.k t.n s1 x y).1 = 1 := by simpa using h3
          rw [if_neg h3'] at g3
          refine ⟨(j + 1, (stepF t.k t.n s1 x y).2), [], [], ⟨by dsimp only; omega, q1, ?_⟩, ?_, ?_⟩
          · dsimp only; rw [g3]; congr 1
          · dsimp only; omega
          · (refine And.intro trivial (And.intro rfl ?_); repeat' (first | exact trivial | exact rfl | refine And.intro ?_ ?_ | (refine fitI ?_; ((repeat rw [wrap_id (by omega) (by omega)]) <;> first | rfl | omega))))
      · simp only [decide_eq_false_iff_not] at h2
        have hj : M - j = 0 := by omega
        rw [hj, untilF] at g3
        conv => whnf
        refine isR ?_ rfl
        rw [g3]
end Go.Proofs.YtaklcemgpinleaaDoor
