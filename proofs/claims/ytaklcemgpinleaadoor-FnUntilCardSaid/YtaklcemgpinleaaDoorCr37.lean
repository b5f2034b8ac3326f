/- Contracts of texts of blocks. -/
import Derived.Test.YtaklcemgpinleaaDoorCr36
namespace Go.Proofs.YtaklcemgpinleaaDoor
open Go
set_option linter.unusedSimpArgs false
set_option linter.unusedVariables false
set_option linter.unnecessarySimpa false
set_option linter.unusedSectionVars false
set_option maxRecDepth 100000
def kwK (k : Int) : ByteArray := kws.getD (k + 4).toNat ⟨#[]⟩
theorem kwK_size {k : Int} (h0 : 7 ≤ k) (h1 : k ≤ 12) : (kwK k).size ≤ 5 := by
  rcases kinds h0 h1 with rfl | rfl | rfl | rfl | rfl | rfl <;> decide
theorem kw_at1 {k : Int} (h0 : 7 ≤ k) (h1 : k ≤ 12) : (strs kws)[(IntKind.i64.wrap (IntKind.i64.wrap (11 + k) - 7)).toNat]? = some [TV.v (.string (kwK k))] := by
  rcases kinds h0 h1 with rfl | rfl | rfl | rfl | rfl | rfl <;> rfl
theorem kw_at2 {k : Int} (h0 : 7 ≤ k) (h1 : k ≤ 12) : (strs kws)[(IntKind.i64.wrap (IntKind.i64.wrap (k - 7) + 11)).toNat]? = some [TV.v (.string (kwK k))] := by
  rcases kinds h0 h1 with rfl | rfl | rfl | rfl | rfl | rfl <;> rfl
theorem i_blockWord (t : Tm) (h0 : 7 ≤ t.k) (h1 : t.k ≤ 12) : A 20 [T t] (S (kwK t.k)) [U3] := by
  have hw : IntKind.i64.wrap (IntKind.i64.wrap (11 + t.k) - 7) = t.k + 4 := by rw [wrap_id (n := 11 + t.k) (by omega) (by omega), wrap_id (by omega) (by omega)]; omega
  have hl : ((strs kws).length : Int) = 17 := rfl
  refine ac [] [] (fn := Tryd.f20) rfl (by kernel_rfl) [0, 1, 2] ?_
  conv => whnf
  refine And.intro (by omega) ?_
  conv => whnf
  refine ⟨_, kw_at1 h0 h1, ?_⟩
  conv => whnf
  refine isR rfl rfl
def sp : ByteArray := ⟨#[32]⟩
/-- the text of a block with its state -/
def textO (t : Tm) (s : Bs) : ByteArray := (((kwK t.k ++ sp) ++ decS t.n) ++ sp) ++ listA ⟨#[]⟩ 0 [s.a, s.b, s.c]
abbrev TX (t : Tm) (s : Bs) : AV := .tup (if codeOf t s [] = 0 then [S (textO t s), I 0] else [S ⟨#[]⟩, I (codeOf t s [])])
theorem poss_nums {t : Tm} {s : Bs} (hB : blockB t = true) (hP : possB t s = true) : Nums [s.a, s.b, s.c] := by
  obtain ⟨h1, h2, h3, h4⟩ := block_facts hB
  obtain ⟨k, nm, n⟩ := t
  obtain ⟨a, b, c⟩ := s
  dsimp only at *
  intro x hx
  simp only [List.mem_cons, List.not_mem_nil, or_false] at hx
  rcases kinds h1 h2 with rfl | rfl | rfl | rfl | rfl | rfl <;> simp [possB, inR] at hP <;> rcases hx with rfl | rfl | rfl <;> omega
theorem code_nil {t : Tm} {s : Bs} : codeOf t s [] = if blockB t then (if possB t s then 0 else 2) else 1 := by simp [codeOf]
set_option maxHeartbeats 1000000 in
theorem i_BlockText (t : Tm) (hs : t.s.size < 4611686018427387904) (s : Bs) : A 9 [T t, BS s] (TX t s) [U3, U3] := by
  have hcode := i_stepCode t hs s [] (by simp) (by simp)
  by_cases h0 : codeOf t s [] = 0
  · rw [TX, if_pos h0]
    have h0' := h0
    rw [code_nil] at h0'
    obtain ⟨hB, hP⟩ : blockB t = true ∧ possB t s = true := by
      by_cases hB : blockB t = true <;> by_cases hP : possB t s = true <;> simp_all
    obtain ⟨h1, h2, h3, h4⟩ := block_facts hB
    have hn := poss_nums hB hP
    have z1 := kwK_size h1 h2
    have z2 := decS_len h3 (by omega)
    have z3 := listA_size [s.a, s.b, s.c] ⟨#[]⟩ 0 hn
    have z4 : (⟨#[]⟩ : ByteArray).size = 0 := rfl
    have z5 : (⟨#[32]⟩ : ByteArray).size = 1 := rfl
    have hl3 : [s.a, s.b, s.c].length = 3 := rfl
    refine ac [] [] (fn := Tryd.f9) rfl (by kernel_rfl) [0, 1, 2, 3, 4, 5, 6, 11] ?_
    conv => whnf
    refine call hcode ?_
    conv => whnf
    refine Br_false (by simpa using h0) ?_
    conv => whnf
    refine call (i_blockWord t h1 h2) ?_
    conv => whnf
    refine And.intro (by omega) ?_
    conv => whnf
    refine call (i_decimal t.n (by omega) (by omega)) ?_
    conv => whnf
    refine And.intro (by rw [ByteArray.size_append]; omega) ?_
    conv => whnf
    refine And.intro (by rw [ByteArray.size_append, ByteArray.size_append]; omega) ?_
    conv => whnf
    refine call (i_join [s.a, s.b, s.c] hn (by omega)) ?_
    conv => whnf
    refine And.intro (by rw [ByteArray.size_append, ByteArray.size_append, ByteArray.size_append]; omega) ?_
    refine And.intro (by kernel_rfl) ?_
    conv => whnf
    refine isR rfl rfl
  · rw [TX, if_neg h0]
    refine ac [] [] (fn := Tryd.f9) rfl (by kernel_rfl) [0, 1, 2, 3, 4, 5, 6, 11] ?_
    conv => whnf
    refine call hcode ?_
    conv => whnf
    refine Br_true (by simpa using h0) ?_
    conv => whnf
    refine isR rfl rfl
set_option maxHeartbeats 1000000 in
theorem s_BlockText (t : Tm) (hs : t.s.size < 4611686018427387904) (s : Bs) : A 10 [T t, BS s] (TX t s) [U3, U3] := by
  by_cases hB : blockB t = true
  · obtain ⟨h1, h2, h3, h4⟩ := block_facts hB
    by_cases hP : possB t s = true
    · have h0 : codeOf t s [] = 0 := by rw [code_nil, if_pos hB, if_pos hP]
      rw [TX, if_pos h0]
      have hn := poss_nums hB hP
      have z1 := kwK_size h1 h2
      have z2 := decS_len h3 (by omega)
      have z3 := listA_size [s.a, s.b, s.c] ⟨#[]⟩ 0 hn
      have z4 : (⟨#[]⟩ : ByteArray).size = 0 := rfl
      have z5 : (⟨#[32]⟩ : ByteArray).size = 1 := rfl
      have hl3 : [s.a, s.b, s.c].length = 3 := rfl
      have hw : IntKind.i64.wrap (IntKind.i64.wrap (t.k - 7) + 11) = t.k + 4 := by rw [wrap_id (n := t.k - 7) (by omega) (by omega), wrap_id (by omega) (by omega)]; omega
      refine ac [] [] (fn := Tryd.f10) rfl (by kernel_rfl) [0, 1, 2, 3, 4, 5, 8, 12] ?_
      conv => whnf
      refine call (s_IsBlock t hs) ?_
      conv => whnf
      refine Br_not (Br_true hB ?_)
      conv => whnf
      refine call (s_l15Possible t s h3 h4) ?_
      conv => whnf
      refine Br_not (Br_true hP ?_)
      conv => whnf
      refine call s_l12Keywords ?_
      conv => whnf
      refine And.intro (by omega) ?_
      conv => whnf
      refine ⟨_, kw_at2 h1 h2, ?_⟩
      conv => whnf
      refine And.intro (by omega) ?_
      conv => whnf
      refine call (s_l01Dec _ t.n rfl (by omega) (by omega)) ?_
      conv => whnf
      refine And.intro (by rw [ByteArray.size_append]; omega) ?_
      conv => whnf
      refine And.intro (by rw [ByteArray.size_append, ByteArray.size_append]; omega) ?_
      conv => whnf
      refine call (s_l20List [s.a, s.b, s.c] hn (by omega)) ?_
      conv => whnf
      refine And.intro (by rw [ByteArray.size_append, ByteArray.size_append, ByteArray.size_append]; omega) ?_
      refine And.intro (by kernel_rfl) ?_
      conv => whnf
      refine isR rfl rfl
    · have h0 : codeOf t s [] = 2 := by rw [code_nil, if_pos hB, if_neg hP]
      rw [TX, if_neg (by omega), h0]
      refine ac [] [] (fn := Tryd.f10) rfl (by kernel_rfl) [0, 1, 2, 3, 4, 5, 8, 12] ?_
      conv => whnf
      refine call (s_IsBlock t hs) ?_
      conv => whnf
      refine Br_not (Br_true hB ?_)
      conv => whnf
      refine call (s_l15Possible t s h3 h4) ?_
      conv => whnf
      refine Br_not (Br_false (by simpa using hP) ?_)
      conv => whnf
      refine isR rfl rfl
  · have h0 : codeOf t s [] = 1 := by rw [code_nil, if_neg hB]
    rw [TX, if_neg (by omega), h0]
    refine ac [] [] (fn := Tryd.f10) rfl (by kernel_rfl) [0, 1, 2, 3, 4, 5, 8, 12] ?_
    conv => whnf
    refine call (s_IsBlock t hs) ?_
    conv => whnf
    refine Br_not (Br_false (by simpa using hB) ?_)
    conv => whnf
    refine isR rfl rfl
end Go.Proofs.YtaklcemgpinleaaDoor
