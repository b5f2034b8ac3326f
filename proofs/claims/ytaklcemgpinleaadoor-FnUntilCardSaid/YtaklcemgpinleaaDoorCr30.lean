/- Contracts of blocks: arguments and codes. -/
import Derived.Test.YtaklcemgpinleaaDoorCr29
namespace Go.Proofs.YtaklcemgpinleaaDoor
open Go
set_option linter.unusedSimpArgs false
set_option linter.unusedVariables false
set_option linter.unnecessarySimpa false
set_option linter.unusedSectionVars false
set_option maxRecDepth 100000
def bitB (x : Int) : Bool := x == 0 || x == 1
def bitsB (xs : List Int) (n : Int) : Bool := decide ((xs.length : Int) = n) && xs.all bitB
theorem findI_neg {α : Type} (p : α → Bool) : ∀ (l : List α) (i : Int), 0 ≤ i → decide (0 ≤ findI p l i) = l.any p
  | [], i, h => by simp [findI]
  | x :: l, i, h => by
    have := findI_neg p l (i + 1) (by omega)
    rw [findI, List.any_cons]
    cases hx : p x
    · simpa using this
    · simpa using h
theorem g_ContainsI (xs : List Int) (hx : xs.length < 9223372036854775807) (g : FuncId) (p : Int → Bool) (hg : ∀ x, A g [I x] (B (p x)) [.undef]) : A 55 [L 1 (ints xs), .fn g []] (B (xs.any p)) [.undef, .fn g []] := by
  refine ac [] [] (fn := Tryd.f55) rfl (by kernel_rfl) [0, 1, 4] ?_
  conv => whnf
  refine call (indexFunc_ok xs hx g p hg) ?_
  exact isR (congrArg B (findI_neg p xs 0 (by decide))) rfl
theorem i_areBits (xs : List Int) (hx : xs.length < 9223372036854775807) (n : Int) : A 38 [L 1 (ints xs), I n] (B (bitsB xs n)) [.undef, .undef] := by
  have hl : ((ints xs).length : Int) = xs.length := by simp
  have ha : xs.all bitB = !(xs.any fun x => x != 0 && x != 1) := by
    rw [Bool.eq_iff_iff]; simp [bitB]; exact ⟨fun h x hx h0 => (h x hx).resolve_left h0, fun h x hx => by by_cases h0 : x = 0; exact .inl h0; exact .inr (h x hx h0)⟩
  refine ac [] [] (fn := Tryd.f38) rfl (by kernel_rfl) [0, 1, 4] ?_
  (repeat' ((conv => whnf); first | (refine Br_intro (fun h => ?_) (fun h => ?_) <;> (try simp only [Bool.not_eq_true', Bool.not_eq_false', Bool.not_eq_true, Bool.not_eq_false, decide_eq_true_eq, decide_eq_false_iff_not, beq_iff_eq, bne_iff_ne, ne_eq, beq_eq_false_iff_ne, bne_eq_false_iff_eq, Decidable.not_not] at h) <;> try (exfalso; omega)) | refine call (g_ContainsI xs hx _ _ i_areBits_lit1) ?_ | refine And.intro (by first | omega | exact ⟨by omega, by omega⟩ | kernel_rfl) ?_ | fail))
  all_goals (refine isR (congrArg B ?_) rfl)
  all_goals rw [hl] at *
  all_goals simp [bitsB, ha, *]
theorem s_l22Bits (xs : List Int) (hx : xs.length < 9223372036854775807) (n : Int) : A 43 [L 1 (ints xs), I n] (B (bitsB xs n)) [.undef, .undef] := by
  have hl : (ints xs).length = xs.length := by simp
  refine ac [] [] (fn := Tryd.f43) rfl (by kernel_rfl) [0, 1, 4, 5, 9, 17] ?_
  refine lp (fun i => i ≤ xs.length ∧ xs.all bitB = (xs.drop i).all bitB) (fun i => ⟨[(0, L 1 (ints xs)), (1, I n), (4, B false), (5, I i), (9, .undef), (17, .undef)], [], []⟩) (fun i => xs.length - i) ⟨0, [], [], ⟨by omega, rfl⟩, ?_⟩ (fun i hI => ?_)
  · (refine And.intro trivial (And.intro rfl ?_); repeat' (first | exact trivial | exact rfl | refine And.intro ?_ ?_ | (refine fitI ?_; ((repeat rw [wrap_id (by omega) (by omega)]) <;> first | rfl | omega))))
  · obtain ⟨h0, hf⟩ := hI
    conv => whnf
    refine Br_intro (fun h1 => ?_) (fun h1 => ?_)
    · have hi : i < xs.length := by simpa using h1
      have hd : xs.drop i = xs[i] :: xs.drop (i + 1) := List.drop_eq_getElem_cons hi
      conv => whnf
      refine ⟨by omega, _, ints_at hi, ?_⟩
      conv => whnf
      refine call (s_l01In _ _ _) ?_
      have hb : inR xs[i] 0 1 = bitB xs[i] := by
        simp only [inR, bitB, beqI, ← Bool.decide_and, ← Bool.decide_or]
        exact decide_eq_decide.2 (by omega)
      conv => whnf
      refine Br_not (Br_intro (fun h2 => ?_) (fun h2 => ?_))
      · refine ⟨i + 1, [], [], ⟨by omega, ?_⟩, by omega, ?_⟩
        · rw [hf, hd, List.all_cons, ← hb, h2, Bool.true_and]
        · (refine And.intro trivial (And.intro rfl ?_); repeat' (first | exact trivial | exact rfl | refine And.intro ?_ ?_ | (refine fitI ?_; ((repeat rw [wrap_id (by omega) (by omega)]) <;> first | rfl | omega))))
      · conv => whnf
        refine isR (congrArg B ?_) rfl
        rw [bitsB, hf, hd, List.all_cons, ← hb, h2]; simp
    · have hi : i = xs.length := by simp at h1; omega
      conv => whnf
      refine isR (congrArg B ?_) rfl
      rw [bitsB, hf, hi, List.drop_length, hl, beqI]; simp
def lists (xss : List (List Int)) : Rows := xss.map fun xs => [TV.sl 1 (ints xs)]
theorem lists_at {xss : List (List Int)} {i : Nat} (hi : i < xss.length) : (lists xss)[(i : Int).toNat]? = some [TV.sl 1 (ints xss[i])] := by simp [lists, hi]
end Go.Proofs.YtaklcemgpinleaaDoor
