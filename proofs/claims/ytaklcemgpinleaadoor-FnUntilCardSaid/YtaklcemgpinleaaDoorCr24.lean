/- Contracts of functions of words. -/
import Derived.Test.YtaklcemgpinleaaDoorCr23
namespace Go.Proofs.YtaklcemgpinleaaDoor
open Go
set_option linter.unusedSimpArgs false
set_option linter.unusedVariables false
set_option linter.unnecessarySimpa false
set_option linter.unusedSectionVars false
set_option maxRecDepth 100000
abbrev at0 (s : ByteArray) (i : Nat) : UInt8 := s.data.toList.getD i 0
def wordB (s : ByteArray) : Bool := s.data.toList.all innerB && (inR s.size 1 12 && letterB (at0 s 0))
theorem drop_at {s : ByteArray} {i : Nat} (hi : i < s.size) : s.data.toList.drop i = at0 s i :: s.data.toList.drop (i + 1) := by
  have hsz : s.data.toList.length = s.size := Array.length_toList
  have hi' : i < s.data.toList.length := by omega
  rw [List.drop_eq_getElem_cons hi']
  simp only [at0, List.getD_eq_getElem?_getD, List.getElem?_eq_getElem hi', Option.getD_some]
theorem s_l12Word (s : ByteArray) (hs : s.size < 4611686018427387904) : A 72 [S s] (B (wordB s)) [.undef] := by
  have hsz : s.data.toList.length = s.size := Array.length_toList
  refine ac [] [] (fn := Tryd.f72) rfl (by kernel_rfl) [0, 2, 3, 7, 14] ?_
  refine lp (fun i => i ≤ s.size ∧ s.data.toList.all innerB = (s.data.toList.drop i).all innerB) (fun i => ⟨[(0, S s), (2, B false), (3, I i), (7, .undef), (14, .undef)], [], []⟩) (fun i => s.size - i) ⟨0, [], [], ⟨by omega, rfl⟩, ?_⟩ (fun i hI => ?_)
  · (refine And.intro trivial (And.intro rfl ?_); repeat' (first | exact trivial | exact rfl | refine And.intro ?_ ?_ | (refine fitI ?_; ((repeat rw [wrap_id (by omega) (by omega)]) <;> first | rfl | omega))))
  · obtain ⟨h0, hf⟩ := hI
    conv => whnf
    refine Br_dec (fun h1 => ?_) (fun h1 => ?_)
    · have hd := drop_at (s := s) (i := i) (by omega)
      conv => whnf
      refine ⟨⟨by omega, by omega⟩, ?_⟩
      refine ⟨_, _, s_l12Inner (at0 s i), ?_⟩
      conv => whnf
      refine Br_not ?_
      conv => whnf
      refine Br_intro (fun h2 => ?_) (fun h2 => ?_)
      · refine ⟨i + 1, [], [], ⟨by omega, ?_⟩, by omega, ?_⟩
        · rw [hf, hd, List.all_cons, h2, Bool.true_and]
        · (refine And.intro trivial (And.intro rfl ?_); repeat' (first | exact trivial | exact rfl | refine And.intro ?_ ?_ | (refine fitI ?_; ((repeat rw [wrap_id (by omega) (by omega)]) <;> first | rfl | omega))))
      · conv => whnf
        refine isR (congrArg B ?_) rfl
        rw [wordB, hf, hd, List.all_cons, h2]; rfl
    · have hi : i = s.data.toList.length := by omega
      have hall : s.data.toList.all innerB = true := by rw [hf, hi, List.drop_length]; rfl
      refine ⟨_, _, s_l01In _ _ _, ?_⟩
      conv => whnf
      refine Br_intro (fun h2 => ?_) (fun h2 => ?_)
      · simp only [inR, Bool.and_eq_true, decide_eq_true_eq] at h2
        conv => whnf
        refine ⟨⟨by omega, by omega⟩, ?_⟩
        refine ⟨_, _, s_l12Letter (at0 s 0), ?_⟩
        conv => whnf
        refine isR (congrArg B ?_) rfl
        simp [wordB, hall, inR, h2]
      · conv => whnf
        refine isR (congrArg B ?_) rfl
        rw [wordB, hall, h2]; rfl
theorem s_l12Keywords : A 25 [] (L 1 (strs kws)) [] := by
  refine ac [] [] (fn := Tryd.f25) rfl (by kernel_rfl) [0] ?_
  exact isR rfl rfl
theorem strs_at {xs : List ByteArray} {i : Nat} (hi : i < xs.length) : (strs xs)[(i : Int).toNat]? = some [TV.v (.string xs[i])] := by simp [strs, hi]
def kwOf (s : ByteArray) : Int := findI (fun y : ByteArray => y.toList == s.toList) kws 0
theorem s_l12Keyword (s : ByteArray) : A 73 [S s] (I (kwOf s)) [.undef] := by
  refine ac [] [] (fn := Tryd.f73) rfl (by kernel_rfl) [0, 2, 3, 4, 9, 17] ?_
  refine ⟨_, _, s_l12Keywords, ?_⟩
  have hl : kws.length = 17 := rfl
  have hl2 : (strs kws).length = 17 := rfl
  refine lp (fun i => i ≤ 17 ∧ kwOf s = findI (fun y : ByteArray => y.toList == s.toList) (kws.drop i) i) (fun i => ⟨[(0, S s), (2, I 0), (3, L 1 (strs kws)), (4, I i), (9, .undef), (17, .undef)], [], []⟩) (fun i => 17 - i) ⟨0, [], [], ⟨by omega, rfl⟩, ?_⟩ (fun i hI => ?_)
  · (refine And.intro trivial (And.intro rfl ?_); repeat' (first | exact trivial | exact rfl | refine And.intro ?_ ?_ | (refine fitI ?_; ((repeat rw [wrap_id (by omega) (by omega)]) <;> first | rfl | omega))))
  · obtain ⟨h0, hf⟩ := hI
    conv => whnf
    refine Br_dec (fun h1 => ?_) (fun h1 => ?_)
    · have hi : i < kws.length := by omega
      have hd : kws.drop i = kws[i] :: kws.drop (i + 1) := List.drop_eq_getElem_cons hi
      conv => whnf
      refine ⟨by omega, _, strs_at hi, ?_⟩
      conv => whnf
      refine Br_intro (fun h2 => ?_) (fun h2 => ?_)
      · conv => whnf
        refine isR (congrArg I ?_) rfl
        rw [hf, hd, findI, h2]; rfl
      · refine ⟨i + 1, [], [], ⟨by omega, ?_⟩, by omega, ?_⟩
        · rw [hf, hd, findI, h2]; rfl
        · (refine And.intro trivial (And.intro rfl ?_); repeat' (first | exact trivial | exact rfl | refine And.intro ?_ ?_ | (refine fitI ?_; ((repeat rw [wrap_id (by omega) (by omega)]) <;> first | rfl | omega))))
    · conv => whnf
      refine isR (congrArg I ?_) rfl
      have hi : i = kws.length := by omega
      rw [hf, hi, List.drop_length]; rfl
def nameB (s : ByteArray) : Bool := wordB s && decide (kwOf s < 0)
theorem s_l13Name (s : ByteArray) (hs : s.size < 4611686018427387904) : A 62 [S s] (B (nameB s)) [.undef] := by
  refine ac [] [] (fn := Tryd.f62) rfl (by kernel_rfl) [0, 2] ?_
  refine ⟨_, _, s_l12Word s hs, ?_⟩
  conv => whnf
  refine Br_intro (fun h2 => ?_) (fun h2 => ?_)
  · refine ⟨_, _, s_l12Keyword s, ?_⟩
    conv => whnf
    refine isR (congrArg B ?_) rfl
    rw [nameB, h2]; rfl
  · conv => whnf
    refine isR (congrArg B ?_) rfl
    rw [nameB, h2]; rfl
end Go.Proofs.YtaklcemgpinleaaDoor
