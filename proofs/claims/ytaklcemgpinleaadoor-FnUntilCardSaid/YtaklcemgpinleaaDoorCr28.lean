/- Contracts of the program's functions on words. -/
import Derived.Test.YtaklcemgpinleaaDoorCr26
namespace Go.Proofs.YtaklcemgpinleaaDoor
open Go
set_option linter.unusedSimpArgs false
set_option linter.unusedVariables false
set_option linter.unnecessarySimpa false
set_option linter.unusedSectionVars false
set_option maxRecDepth 100000
def eqS (s y : ByteArray) : Bool := s.toList == y.toList
theorem g_IndexS (xs : List ByteArray) (hx : xs.length < 9223372036854775807) (s : ByteArray) : A 92 [L 1 (strs xs), S s] (I (findI (eqS s) xs 0)) [.undef, .undef] := by
  refine ac [] [] (fn := Tryd.f92) rfl (by kernel_rfl) [0, 1, 4, 5, 7, 8, 9, 16] ?_
  refine lp (fun i => i ≤ xs.length ∧ findI (eqS s) xs 0 = findI (eqS s) (xs.drop i) i) (fun i => ⟨[(0, L 1 (strs xs)), (1, S s), (4, I 0), (5, .undef), (7, I (strs xs).length), (8, I i), (9, .undef), (16, .undef)], [], []⟩) (fun i => xs.length - i) ⟨0, [], [], ⟨by omega, rfl⟩, ?_⟩ (fun i hI => ?_)
  · (refine And.intro trivial (And.intro rfl ?_); repeat' (first | exact trivial | exact rfl | refine And.intro ?_ ?_ | (refine fitI ?_; ((repeat rw [wrap_id (by omega) (by omega)]) <;> first | rfl | omega))))
  · obtain ⟨h0, hf⟩ := hI
    have hl : (strs xs).length = xs.length := by simp
    conv => whnf
    refine Br_intro (fun h1 => ?_) (fun h1 => ?_)
    · have hi : i < xs.length := by simpa using h1
      have hd : xs.drop i = xs[i] :: xs.drop (i + 1) := List.drop_eq_getElem_cons hi
      conv => whnf
      refine ⟨by omega, _, strs_at hi, ?_⟩
      conv => whnf
      refine Br_intro (fun h2 => ?_) (fun h2 => ?_)
      · conv => whnf
        refine isR (congrArg I ?_) rfl
        rw [hf, hd, findI, eqS, h2]; rfl
      · refine ⟨i + 1, [], [], ⟨by omega, ?_⟩, by omega, ?_⟩
        · rw [hf, hd, findI, eqS, h2]; rfl
        · (refine And.intro trivial (And.intro rfl ?_); repeat' (first | exact trivial | exact rfl | refine And.intro ?_ ?_ | (refine fitI ?_; ((repeat rw [wrap_id (by omega) (by omega)]) <;> first | rfl | omega))))
    · conv => whnf
      refine isR (congrArg I ?_) rfl
      have hi : i = xs.length := by simp at h1; omega
      rw [hf, hi, List.drop_length]; rfl
theorem g_ContainsS (xs : List ByteArray) (hx : xs.length < 9223372036854775807) (s : ByteArray) : A 87 [L 1 (strs xs), S s] (B (decide (0 ≤ findI (eqS s) xs 0))) [.undef, .undef] := by
  refine ac [] [] (fn := Tryd.f87) rfl (by kernel_rfl) [0, 1, 4] ?_
  conv => whnf
  refine call (g_IndexS xs hx s) ?_
  exact isR rfl rfl
def isKw (s : ByteArray) : Bool := decide (0 ≤ findI (eqS s) kws 0)
theorem i_IsKeyword (s : ByteArray) : A 75 [S s] (B (isKw s)) [.undef] := by
  refine ac [] [] (fn := Tryd.f75) rfl (by kernel_rfl) [0, 2] ?_
  conv => whnf
  refine call (g_ContainsS kws (by decide) s) ?_
  exact isR rfl rfl
theorem findI_congr {α : Type} {p q : α → Bool} (h : ∀ x, p x = q x) : ∀ (l : List α) (i : Int), findI p l i = findI q l i
  | [], _ => rfl
  | x :: xs, i => by rw [findI, findI, h x, findI_congr h xs]
theorem isKw_eq (s : ByteArray) : isKw s = !decide (kwOf s < 0) := by
  have e : findI (eqS s) kws 0 = kwOf s := findI_congr (fun y => by rw [eqS]; exact Bool.beq_comm) kws 0
  rw [isKw, e]
  by_cases h : kwOf s < 0 <;> simp [h] <;> omega
def letL : ByteArray := ⟨#[97, 98, 99, 100, 101, 102, 103, 104, 105, 106, 107, 108, 109, 110, 111, 112, 113, 114, 115, 116, 117, 118, 119, 120, 121, 122]⟩
def wordL : ByteArray := ⟨#[97, 98, 99, 100, 101, 102, 103, 104, 105, 106, 107, 108, 109, 110, 111, 112, 113, 114, 115, 116, 117, 118, 119, 120, 121, 122, 48, 49, 50, 51, 52, 53, 54, 55, 56, 57, 95]⟩
theorem all_bytes {p : UInt8 → Bool} (h : (List.range 256).all (fun n => p (UInt8.ofNat n)) = true) (b : UInt8) : p b = true := by
  have := List.all_eq_true.1 h b.toNat (List.mem_range.2 b.toNat_lt)
  simpa using this
theorem letL_ok (b : UInt8) : decide (0 ≤ idxB letL b) = letterB b := by
  have := all_bytes (p := fun b => decide (0 ≤ idxB letL b) == letterB b) (by kernel_rfl) b
  simpa using this
theorem wordL_ok (b : UInt8) : decide (0 ≤ idxB wordL b) = innerB b := by
  have := all_bytes (p := fun b => decide (0 ≤ idxB wordL b) == innerB b) (by kernel_rfl) b
  simpa using this
/-- how many bytes from a place on are of a kind -/
def runL (p : UInt8 → Bool) : List UInt8 → Nat
  | [] => 0
  | b :: l => if p b then runL p l + 1 else 0
theorem runL_le (p : UInt8 → Bool) : ∀ l, runL p l ≤ l.length
  | [] => Nat.le_refl _
  | b :: l => by
    rw [runL]; split
    · have := runL_le p l; rw [List.length_cons]; omega
    · omega
theorem runL_all (p : UInt8 → Bool) : ∀ l, (decide (runL p l = l.length)) = l.all p
  | [] => rfl
  | b :: l => by
    have := runL_all p l
    have hl := runL_le p l
    rw [runL, List.all_cons, List.length_cons, ← this]
    by_cases h : p b = true <;> simp [h]
theorem i_run (s bs : ByteArray) (hs : s.size < 4611686018427387904) (k : Nat) (hk : k ≤ s.size) : A 86 [S s, I k, S bs] (I (runL (fun b => decide (0 ≤ idxB bs b)) (s.data.toList.drop k))) [.undef, .undef, .undef] := by
  have hsz : s.data.toList.length = s.size := Array.length_toList
  refine ac [] [] (fn := Tryd.f86) rfl (by kernel_rfl) [0, 1, 2, 6, 7, 23] ?_
  refine lp (fun i => k + i ≤ s.size ∧ runL (fun b => decide (0 ≤ idxB bs b)) (s.data.toList.drop k) = i + runL (fun b => decide (0 ≤ idxB bs b)) (s.data.toList.drop (k + i)))
    (fun i => ⟨[(0, S s), (1, I k), (2, S bs), (6, I 0), (7, I i), (23, .undef)], [], []⟩) (fun i => s.size - i) ⟨0, [], [], ⟨by omega, by simp⟩, ?_⟩ (fun i hI => ?_)
  · (refine And.intro trivial (And.intro rfl ?_); repeat' (first | exact trivial | exact rfl | refine And.intro ?_ ?_ | (refine fitI ?_; ((repeat rw [wrap_id (by omega) (by omega)]) <;> first | rfl | omega))))
  · obtain ⟨h0, hf⟩ := hI
    have hw : IntKind.i64.wrap ((k : Int) + (i : Int)) = ((k + i : Nat) : Int) := by rw [wrap_id] <;> omega
    conv => whnf
    refine Br_intro (fun h1 => ?_) (fun h1 => ?_)
    · rw [decide_eq_true_eq, hw] at h1
      have hd := drop_at (s := s) (i := k + i) (by omega)
      refine ⟨by rw [hw]; omega, ?_⟩
      have hb := g_IndexByte bs (at0 s (k + i))
      have hg : s.data.toList.getD (IntKind.i64.wrap ((k : Int) + (i : Int))).toNat 0 = at0 s (k + i) := by rw [hw]; rfl
      rw [← hg] at hb
      conv => whnf
      refine call hb ?_
      conv => whnf
      refine Br_intro (fun h2 => ?_) (fun h2 => ?_)
      · refine ⟨i + 1, [], [], ⟨by omega, ?_⟩, by omega, ?_⟩
        · rw [hf, hd, runL, ← hg, if_pos h2, Nat.add_assoc]; omega
        · (refine And.intro trivial (And.intro rfl ?_); repeat' (first | exact trivial | exact rfl | refine And.intro ?_ ?_ | (refine fitI ?_; ((repeat rw [wrap_id (by omega) (by omega)]) <;> first | rfl | omega))))
      · conv => whnf
        refine isR (congrArg I ?_) rfl
        rw [hf, hd, runL, ← hg, if_neg (by simp only [h2]; simp)]; simp
    · conv => whnf
      refine isR (congrArg I ?_) rfl
      rw [decide_eq_false_iff_not, hw] at h1
      rw [hf, List.drop_eq_nil_of_le (by omega)]; simp [runL]
theorem runL_congr {p q : UInt8 → Bool} (h : ∀ x, p x = q x) : ∀ l, runL p l = runL q l
  | [] => rfl
  | b :: l => by rw [runL, runL, h b, runL_congr h l]
theorem i_isWord (s : ByteArray) (hs : s.size < 4611686018427387904) : A 74 [S s] (B (wordB s)) [.undef] := by
  have hsz : s.data.toList.length = s.size := Array.length_toList
  have hr := i_run s wordL hs 0 (by omega)
  rw [List.drop_zero, runL_congr wordL_ok] at hr
  have hall := runL_all innerB s.data.toList
  refine ac [] [] (fn := Tryd.f74) rfl (by kernel_rfl) [0, 2] ?_
  conv => whnf
  refine call (i_within _ _ _) ?_
  conv => whnf
  refine Br_intro (fun h1 => ?_) (fun h1 => ?_)
  · have h2 := h1
    simp only [inR, Bool.and_eq_true, decide_eq_true_eq] at h2
    conv => whnf
    refine ⟨⟨by omega, by omega⟩, ?_⟩
    have hb := g_IndexByte letL (at0 s 0)
    conv => whnf
    refine call hb ?_
    conv => whnf
    refine Br_intro (fun h3 => ?_) (fun h3 => ?_)
    · replace h3 : letterB (at0 s 0) = true := by rw [← letL_ok]; exact h3
      conv => whnf
      refine call hr ?_
      conv => whnf
      refine isR (congrArg B ?_) rfl
      rw [wordB, h1, h3, ← hall, hsz]
      by_cases h : runL innerB s.data.toList = s.size <;> simp [h]
      omega
    · replace h3 : letterB (at0 s 0) = false := by rw [← letL_ok]; exact h3
      conv => whnf
      refine isR (congrArg B ?_) rfl
      rw [wordB, h1, h3]; simp
  · conv => whnf
    refine isR (congrArg B ?_) rfl
    rw [wordB, h1]; simp
theorem i_isName (s : ByteArray) (hs : s.size < 4611686018427387904) : A 64 [S s] (B (nameB s)) [.undef] := by
  refine ac [] [] (fn := Tryd.f64) rfl (by kernel_rfl) [0, 2] ?_
  conv => whnf
  refine call (i_isWord s hs) ?_
  conv => whnf
  refine Br_intro (fun h1 => ?_) (fun h1 => ?_)
  · conv => whnf
    refine call (i_IsKeyword s) ?_
    conv => whnf
    refine isR (congrArg B ?_) rfl
    rw [nameB, h1, isKw_eq]; simp
  · conv => whnf
    refine isR (congrArg B ?_) rfl
    rw [nameB, h1]; simp
end Go.Proofs.YtaklcemgpinleaaDoor
