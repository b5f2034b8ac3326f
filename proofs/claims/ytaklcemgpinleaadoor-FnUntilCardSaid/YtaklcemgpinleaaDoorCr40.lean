/- The contract of the law FnUntil. -/
import Derived.Test.YtaklcemgpinleaaDoorCr39
namespace Go.Proofs.YtaklcemgpinleaaDoor
open Go
set_option linter.unusedSimpArgs false
set_option linter.unusedVariables false
set_option linter.unnecessarySimpa false
set_option linter.unusedSectionVars false
set_option maxRecDepth 100000
theorem untilF_ge {f : Bs → Int × Bs} : ∀ (m : Nat) (s : Bs) (k n : Int), untilF f m s k = (n, 0) → k ≤ n
  | 0, s, k, n, h => by simp [untilF] at h
  | m + 1, s, k, n, h => by
    rw [untilF] at h
    split at h
    · simp at h; omega
    · have := untilF_ge m _ _ _ h; omega
set_option maxHeartbeats 4000000 in
theorem w_FnUntil (code : List UInt8) : A 3 [L 1 (bytes code)] (B true) [.undef] := by
  by_cases hb : 4096 < (code.length : Int)
  · refine ac [] [] (fn := Tryd.f3) rfl (by kernel_rfl) [0, 2, 3, 4, 5, 6, 7, 8, 9, 10, 11, 12, 13, 14, 15, 16, 17, 18, 19, 20, 22, 86, 92, 96, 116] ?_
    conv => whnf
    refine call (w_big code) ?_
    conv => whnf
    refine Br_true (by simpa using hb) ?_
    conv => whnf
    refine isR rfl rfl
  · have hl : code.length ≤ 4096 := by omega
    obtain ⟨r, outs, ⟨t, b, xs, ht, hx, rfl, rfl⟩, c1⟩ := s_DrawScansUntil code hl
    obtain ⟨r2, outs2, ⟨t2, b2, ht2, rfl, rfl⟩, c2⟩ := s_DrawBlockText code hl
    have c3 := i_ScansUntil t ht b xs (by omega)
    have c4 := s_ScansUntil t ht b xs (by omega)
    have c5 := i_BlockText t2 ht2 b2
    have c6 := s_BlockText t2 ht2 b2
    have c7 := i_IsPossible t2 ht2 b2
    have c8 := s_IsPossible t2 ht2 b2
    obtain ⟨tx, tc, hT⟩ : ∃ tx tc, TX t2 b2 = .tup [S tx, I tc] := by
      by_cases h : codeOf t2 b2 [] = 0
      · exact ⟨_, _, by rw [TX, if_pos h]⟩
      · exact ⟨_, _, by rw [TX, if_neg h]⟩
    rw [hT] at c5 c6
    obtain ⟨n, bad, hR⟩ : ∃ n bad, untilO t b xs = (n, bad) := ⟨_, _, rfl⟩
    rw [hR] at c3 c4
    dsimp only at c3 c4
    refine ac [] [] (fn := Tryd.f3) rfl (by kernel_rfl) [0, 2, 3, 4, 5, 6, 7, 8, 9, 10, 11, 12, 13, 14, 15, 16, 17, 18, 19, 20, 22, 86, 92, 96, 116] ?_
    conv => whnf
    refine call (w_big code) ?_
    conv => whnf
    refine Br_false (by simpa using hb) ?_
    conv => whnf
    refine call c1 ?_
    conv => whnf
    refine call c3 ?_
    conv => whnf
    refine call c4 ?_
    conv => whnf
    refine call c2 ?_
    conv => whnf
    refine call c5 ?_
    conv => whnf
    refine call c6 ?_
    conv => whnf
    refine Br_false (by simp) ?_
    conv => whnf
    refine Br_false (by simp) ?_
    conv => whnf
    refine Br_false (by simp) ?_
    conv => whnf
    refine Br_false (by simp) ?_
    conv => whnf
    refine call c7 ?_
    conv => whnf
    refine call c8 ?_
    conv => whnf
    refine And.intro (by kernel_rfl) ?_
    conv => whnf
    refine Br_false (by simp) ?_
    conv => whnf
    refine Br_intro (fun e1 => ?_) (fun e1 => ?_)
    · conv => whnf
      refine isR rfl rfl
    · have hbad : bad = 0 := by simpa using e1
      subst hbad
      conv => whnf
      refine Br_intro (fun e2 => ?_) (fun e2 => ?_)
      · conv => whnf
        refine isR rfl rfl
      · have hn : n ≤ 100 := by simpa using e2
        have hcode : codeOf t b [xs] = 0 := by
          rw [untilO] at hR
          split at hR
          · assumption
          · rename_i hc; simp at hR; exact absurd hR.2 hc
        obtain ⟨hB, hP, x, y, kx, ky, hxs⟩ := code_zero hcode
        have hu : untilF (fun s => stepF t.k t.n s x y) 10002 b 1 = (n, 0) := by
          rw [← hR, untilO, if_pos hcode]; congr 1; funext s; rw [hxs]; exact stepF_arg.symm
        obtain ⟨M, hM⟩ : ∃ M : Nat, M = 10002 := ⟨_, rfl⟩
        rw [← hM] at hu
        have hn1 := untilF_ge _ _ _ _ hu
        refine lp (fun i : Nat × Bs => ((i.1 + 1 ≤ n ∧ possB t i.2 = true ∧ untilF (fun s => stepF t.k t.n s x y) (M - i.1) i.2 (i.1 + 1) = (n, 0)) ∨ (i.1 : Int) = n))
          (fun i => ⟨[(0, L 1 (bytes code)), (2, B false), (3, .ptr (.site 3) 0), (4, .undef), (5, L 1 (ints xs)), (6, .undef), (7, .undef), (8, I n), (9, .undef), (10, .undef), (11, .undef), (12, .undef), (13, .undef), (14, .undef), (15, .undef), (16, .ptr (.site 16) 0), (17, I (i.1 + 1)), (18, .undef), (19, .undef), (20, .undef), (22, .undef), (86, .undef), (92, .undef), (96, .undef), (116, .undef)], [(.site 3, .box [I t.k, S t.s, I t.n]), (.site 16, .box [I i.2.a, I i.2.b, I i.2.c])], []⟩)
          (fun i => n.toNat - i.1) ⟨(0, b), [], [], .inl ⟨by dsimp only; omega, hP, hu⟩, ?_⟩ (fun i hI => ?_)
        · (refine And.intro trivial (And.intro rfl ?_); repeat' (first | exact trivial | exact rfl | refine And.intro ?_ ?_ | (refine fitI ?_; ((repeat rw [wrap_id (by omega) (by omega)]) <;> first | rfl | omega))))
        · obtain ⟨j, s1⟩ := i
          dsimp only at hI
          conv => whnf
          refine Br_intro (fun e3 => ?_) (fun e3 => ?_)
          · have hj : (j : Int) + 1 ≤ n := by simpa using e3
            obtain ⟨_, q1, q2⟩ := hI.resolve_right (by omega)
            obtain ⟨p1, p2⟩ := step_poss hB q1 kx ky
            have hcode1 : codeOf t s1 [xs] = 0 := by
              simp only [codeOf, hB, if_true] at hcode ⊢
              rw [hP] at hcode
              rw [q1]; exact hcode
            have cs := (i_StepBlock t ht s1 xs (by omega)).2 x y hcode1 hxs kx ky
            have hM1 : M - j = (M - (j + 1)) + 1 := by
              rcases Nat.lt_or_ge j M with h | h
              · omega
              · rw [show M - j = 0 by omega] at q2; simp [untilF] at q2
            rw [hM1, untilF] at q2
            have key : ((stepF t.k t.n s1 x y).1 == 1) = ((j : Int) + 1 == n) ∧
                (((j + 1 : Nat) : Int) + 1 ≤ n ∧ possB t (stepF t.k t.n s1 x y).2 = true ∧ untilF (fun s => stepF t.k t.n s x y) (M - (j + 1)) (stepF t.k t.n s1 x y).2 (((j + 1 : Nat) : Int) + 1) = (n, 0) ∨ ((j + 1 : Nat) : Int) = n) := by
              by_cases h1 : (stepF t.k t.n s1 x y).1 = 1
              · rw [if_pos h1] at q2
                have hjn : (j : Int) + 1 = n := by simpa using q2
                exact ⟨by rw [h1, hjn]; simp, .inr (by omega)⟩
              · rw [if_neg h1] at q2
                have hge := untilF_ge _ _ _ _ q2
                refine ⟨?_, .inl ⟨by omega, p1, q2⟩⟩
                rw [beqI, beqI]; simp [h1]; omega
            conv => whnf
            refine call cs ?_
            conv => whnf
            refine Br_false (by
              show (!(((stepF t.k t.n s1 x y).1 == 1) == ((j : Int) + 1 == n))) = false
              rw [key.1]; simp) ?_
            refine ⟨(j + 1, (stepF t.k t.n s1 x y).2), [], [], key.2, by dsimp only; omega, ?_⟩
            (refine And.intro trivial (And.intro rfl ?_); repeat' (first | exact trivial | exact rfl | refine And.intro ?_ ?_ | (refine fitI ?_; ((repeat rw [wrap_id (by omega) (by omega)]) <;> first | rfl | omega))))
          · conv => whnf
            refine isR rfl rfl
end Go.Proofs.YtaklcemgpinleaaDoor
