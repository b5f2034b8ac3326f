/- Contracts of blocks: codes. -/
import Derived.Test.YtaklcemgpinleaaDoorCr30
namespace Go.Proofs.YtaklcemgpinleaaDoor
open Go
set_option linter.unusedSimpArgs false
set_option linter.unusedVariables false
set_option linter.unnecessarySimpa false
set_option linter.unusedSectionVars false
set_option maxRecDepth 100000
abbrev TB (t : Tm) : AV := .box [I t.k, S t.s, I t.n]
theorem g_IndexLs (xs : List (List Int)) (hx : xs.length < 9223372036854775807) (g : FuncId) (t : Tm) (p : List Int → Bool) (hg : ∀ x ∈ xs, A g [L 1 (ints x), TB t] (B (p x)) [.undef, TB t]) : A 54 [L 1 (lists xs), .fn g [TB t]] (I (findI p xs 0)) [.undef, .fn g [TB t]] := by
  refine ac [] [] (fn := Tryd.f54) rfl (by kernel_rfl) [0, 1, 4, 5, 7, 8, 9, 16] ?_
  refine lp (fun i => i ≤ xs.length ∧ findI p xs 0 = findI p (xs.drop i) i) (fun i => ⟨[(0, L 1 (lists xs)), (1, .fn g [.ptr (.sub (.arg 1) 0) 0]), (4, I 0), (5, .undef), (7, I (lists xs).length), (8, I i), (9, .undef), (16, .undef)], [(.sub (.arg 1) 0, .box [I t.k, S t.s, I t.n])], [(1, .fn g [.ptr (.sub (.arg 1) 0) 0])]⟩) (fun i => xs.length - i) ⟨0, [], [], ⟨by omega, rfl⟩, ?_⟩ (fun i hI => ?_)
  · (refine And.intro trivial (And.intro rfl ?_); repeat' (first | exact trivial | exact rfl | refine And.intro ?_ ?_ | (refine fitI ?_; ((repeat rw [wrap_id (by omega) (by omega)]) <;> first | rfl | omega))))
  · obtain ⟨h0, hf⟩ := hI
    have hl : (lists xs).length = xs.length := by simp [lists]
    conv => whnf
    refine Br_intro (fun h1 => ?_) (fun h1 => ?_)
    · have hi : i < xs.length := by simpa [hl] using h1
      have hd : xs.drop i = xs[i] :: xs.drop (i + 1) := List.drop_eq_getElem_cons hi
      conv => whnf
      refine ⟨by omega, _, lists_at hi, ?_⟩
      conv => whnf
      refine call (hg _ (List.getElem_mem hi)) ?_
      conv => whnf
      refine Br_intro (fun h2 => ?_) (fun h2 => ?_)
      · conv => whnf
        refine isR (congrArg I ?_) rfl
        rw [hf, hd, findI, h2]; rfl
      · refine ⟨i + 1, [], [], ⟨by omega, ?_⟩, by omega, ?_⟩
        · rw [hf, hd, findI, h2]; rfl
        · (refine And.intro trivial (And.intro rfl ?_); repeat' (first | exact trivial | exact rfl | refine And.intro ?_ ?_ | (refine fitI ?_; ((repeat rw [wrap_id (by omega) (by omega)]) <;> first | rfl | omega))))
    · conv => whnf
      refine isR (congrArg I ?_) rfl
      have hi : i = xs.length := by simp [hl] at h1; omega
      rw [hf, hi, List.drop_length]; rfl
theorem g_ContainsLs (xs : List (List Int)) (hx : xs.length < 9223372036854775807) (g : FuncId) (t : Tm) (p : List Int → Bool) (hg : ∀ x ∈ xs, A g [L 1 (ints x), TB t] (B (p x)) [.undef, TB t]) : A 36 [L 1 (lists xs), .fn g [TB t]] (B (xs.any p)) [.undef, .fn g [TB t]] := by
  refine ac [] [] (fn := Tryd.f36) rfl (by kernel_rfl) [0, 1, 4] ?_
  conv => whnf
  refine call (g_IndexLs xs hx g t p hg) ?_
  exact isR (congrArg B (findI_neg p xs 0 (by decide))) rfl
theorem i_stepCode_lit1 (t : Tm) (xs : List Int) (hx : xs.length < 9223372036854775807) : A 37 [L 1 (ints xs), TB t] (B (!(bitsB xs (takes t.k)))) [.undef, TB t] := by
  refine ac [] [] (fn := Tryd.f37) rfl (by kernel_rfl) [0, 1, 3] ?_
  (repeat' ((conv => whnf); first | (refine Br_intro (fun h => ?_) (fun h => ?_) <;> (try simp only [Bool.not_eq_true', Bool.not_eq_false', Bool.not_eq_true, Bool.not_eq_false, decide_eq_true_eq, decide_eq_false_iff_not, beq_iff_eq, bne_iff_ne, ne_eq, beq_eq_false_iff_ne, bne_eq_false_iff_eq, Decidable.not_not] at h) <;> try (exfalso; omega)) | refine call (i_arguments _) ?_ | refine call (i_areBits xs hx _) ?_ | refine And.intro (by first | omega | exact ⟨by omega, by omega⟩ | kernel_rfl) ?_ | fail))
  all_goals exact isR rfl rfl
/-- the code of a block, a state and lists of arguments -/
def codeOf (t : Tm) (s : Bs) (xss : List (List Int)) : Int :=
  if blockB t then (if possB t s && xss.all (fun xs => bitsB xs (takes t.k)) then 0 else 2) else 1
theorem i_stepCode (t : Tm) (hs : t.s.size < 4611686018427387904) (s : Bs) (xss : List (List Int)) (hx : xss.length < 9223372036854775807) (hxs : ∀ xs ∈ xss, xs.length < 9223372036854775807) :
    A 15 [T t, BS s, L 1 (lists xss)] (I (codeOf t s xss)) [U3, U3, .undef] := by
  have hg := g_ContainsLs xss hx 37 t (fun xs => !(bitsB xs (takes t.k))) (fun xs hm => i_stepCode_lit1 t xs (hxs xs hm))
  have ha : xss.all (fun xs => bitsB xs (takes t.k)) = !(xss.any (fun xs => !(bitsB xs (takes t.k)))) := by
    rw [Bool.eq_iff_iff]; simp
  refine ac [] [] (fn := Tryd.f15) rfl (by kernel_rfl) [0, 1, 2, 3, 4, 6, 7, 11] ?_
  conv => whnf
  refine call (i_IsBlock t hs) ?_
  conv => whnf
  refine Br_not (Br_intro (fun h1 => ?_) (fun h1 => ?_))
  · obtain ⟨a1, a2, a3, a4⟩ := block_facts h1
    (repeat' ((conv => whnf); first | (refine Br_intro (fun h => ?_) (fun h => ?_) <;> (try simp only [Bool.not_eq_true', Bool.not_eq_false', Bool.not_eq_true, Bool.not_eq_false, decide_eq_true_eq, decide_eq_false_iff_not, beq_iff_eq, bne_iff_ne, ne_eq, beq_eq_false_iff_ne, bne_eq_false_iff_eq, Decidable.not_not] at h) <;> try (exfalso; omega)) | refine call (i_isPossible t s ⟨a1, a2⟩ a3 a4) ?_ | refine call (hg) ?_ | refine And.intro (by first | omega | exact ⟨by omega, by omega⟩ | kernel_rfl) ?_ | fail))
    all_goals (refine isR (congrArg I ?_) rfl; simp_all [codeOf])
  · conv => whnf
    refine isR (congrArg I ?_) rfl
    simp [codeOf, h1]
theorem s_l15Code (t : Tm) (hs : t.s.size < 4611686018427387904) (s : Bs) (xs : List Int) (hx : xs.length < 9223372036854775807) :
    A 17 [T t, BS s, L 1 (ints xs)] (I (codeOf t s [xs])) [U3, U3, .undef] := by
  refine ac [] [] (fn := Tryd.f17) rfl (by kernel_rfl) [0, 1, 2, 3, 4, 6, 9, 21] ?_
  conv => whnf
  refine call (s_IsBlock t hs) ?_
  conv => whnf
  refine Br_not (Br_intro (fun h1 => ?_) (fun h1 => ?_))
  · obtain ⟨a1, a2, a3, a4⟩ := block_facts h1
    (repeat' ((conv => whnf); first | (refine Br_intro (fun h => ?_) (fun h => ?_) <;> (try simp only [Bool.not_eq_true', Bool.not_eq_false', Bool.not_eq_true, Bool.not_eq_false, decide_eq_true_eq, decide_eq_false_iff_not, beq_iff_eq, bne_iff_ne, ne_eq, beq_eq_false_iff_ne, bne_eq_false_iff_eq, Decidable.not_not] at h) <;> try (exfalso; omega)) | refine call (s_l15Possible t s a3 a4) ?_ | refine call (s_l13Takes _) ?_ | refine call (s_l22Bits xs hx _) ?_ | refine And.intro (by first | omega | exact ⟨by omega, by omega⟩ | kernel_rfl) ?_ | fail))
    all_goals (refine isR (congrArg I ?_) rfl; simp_all [codeOf])
  · conv => whnf
    refine isR (congrArg I ?_) rfl
    simp [codeOf, h1]
theorem i_IsPossible (t : Tm) (hs : t.s.size < 4611686018427387904) (s : Bs) : A 11 [T t, BS s] (B (blockB t && possB t s)) [U3, U3] := by
  refine ac [] [] (fn := Tryd.f11) rfl (by kernel_rfl) [0, 1, 2, 3, 4] ?_
  conv => whnf
  refine call (i_IsBlock t hs) ?_
  conv => whnf
  refine Br_intro (fun h1 => ?_) (fun h1 => ?_)
  · obtain ⟨a1, a2, a3, a4⟩ := block_facts h1
    (repeat' ((conv => whnf); first | (refine Br_intro (fun h => ?_) (fun h => ?_) <;> (try simp only [Bool.not_eq_true', Bool.not_eq_false', Bool.not_eq_true, Bool.not_eq_false, decide_eq_true_eq, decide_eq_false_iff_not, beq_iff_eq, bne_iff_ne, ne_eq, beq_eq_false_iff_ne, bne_eq_false_iff_eq, Decidable.not_not] at h) <;> try (exfalso; omega)) | refine call (i_isPossible t s ⟨a1, a2⟩ a3 a4) ?_ | refine And.intro (by first | omega | exact ⟨by omega, by omega⟩ | kernel_rfl) ?_ | fail))
    all_goals (refine isR (congrArg B ?_) rfl; simp [h1])
  · conv => whnf
    refine isR (congrArg B ?_) rfl
    simp [h1]
theorem s_IsPossible (t : Tm) (hs : t.s.size < 4611686018427387904) (s : Bs) : A 12 [T t, BS s] (B (blockB t && possB t s)) [U3, U3] := by
  refine ac [] [] (fn := Tryd.f12) rfl (by kernel_rfl) [0, 1, 2, 3, 4] ?_
  conv => whnf
  refine call (s_IsBlock t hs) ?_
  conv => whnf
  refine Br_intro (fun h1 => ?_) (fun h1 => ?_)
  · obtain ⟨a1, a2, a3, a4⟩ := block_facts h1
    (repeat' ((conv => whnf); first | (refine Br_intro (fun h => ?_) (fun h => ?_) <;> (try simp only [Bool.not_eq_true', Bool.not_eq_false', Bool.not_eq_true, Bool.not_eq_false, decide_eq_true_eq, decide_eq_false_iff_not, beq_iff_eq, bne_iff_ne, ne_eq, beq_eq_false_iff_ne, bne_eq_false_iff_eq, Decidable.not_not] at h) <;> try (exfalso; omega)) | refine call (s_l15Possible t s a3 a4) ?_ | refine And.intro (by first | omega | exact ⟨by omega, by omega⟩ | kernel_rfl) ?_ | fail))
    all_goals (refine isR (congrArg B ?_) rfl; simp [h1])
  · conv => whnf
    refine isR (congrArg B ?_) rfl
    simp [h1]
end Go.Proofs.YtaklcemgpinleaaDoor
