/- Contracts of lists of numbers as texts. -/
import Derived.Test.YtaklcemgpinleaaDoorCr351
import Derived.Test.YtaklcemgpinleaaDoorCr34
namespace Go.Proofs.YtaklcemgpinleaaDoor
open Go
set_option linter.unusedSimpArgs false
set_option linter.unusedVariables false
set_option linter.unnecessarySimpa false
set_option linter.unusedSectionVars false
set_option maxRecDepth 100000
def comma : ByteArray := ⟨#[44]⟩
def listA (acc : ByteArray) (i : Nat) : List Int → ByteArray
  | [] => acc
  | x :: xs => listA ((if i = 0 then acc else acc ++ comma) ++ decS x) (i + 1) xs
def Nums (xs : List Int) : Prop := ∀ x ∈ xs, 0 ≤ x ∧ x ≤ 9223372036854775807
theorem listA_pos : ∀ (xs : List Int) (acc : ByteArray) (i : Nat), 0 < i → (listA acc i xs).data.toList = acc.data.toList ++ Lib.joinTail [44] (xs.map fun x => (decS x).data.toList)
  | [], acc, i, _ => by simp [listA, Lib.joinTail]
  | x :: xs, acc, i, h => by
    rw [listA, if_neg (by omega), listA_pos xs _ _ (by omega)]
    simp [Lib.joinTail, comma, ByteArray.data_append]
theorem listA_join (xs : List Int) : listA ⟨#[]⟩ 0 xs = joinS (xs.map decS) comma := by
  apply ByteArray.ext
  apply Array.toList_inj.1
  cases xs with
  | nil => rfl
  | cons x xs =>
    rw [listA, if_pos rfl, listA_pos xs _ _ (by omega)]
    simp only [joinS, List.map_cons, List.map_map]
    rw [Lib.join_cons]
    have : (⟨#[]⟩ ++ decS x : ByteArray).data.toList = (decS x).data.toList := by simp [ByteArray.data_append]
    rw [this]
    rfl
theorem listA_size : ∀ (xs : List Int) (acc : ByteArray) (i : Nat), Nums xs → (listA acc i xs).size ≤ acc.size + 20 * xs.length
  | [], acc, i, _ => by simp [listA]
  | x :: xs, acc, i, h => by
    have h1 := listA_size xs ((if i = 0 then acc else acc ++ comma) ++ decS x) (i + 1) (fun y hy => h y (by simp [hy]))
    have h2 := decS_len (h x (by simp)).1 (h x (by simp)).2
    have h3 : ((if i = 0 then acc else acc ++ comma) ++ decS x).size ≤ acc.size + 20 := by
      have hc : comma.size = 1 := rfl
      split <;> simp only [ByteArray.size_append] <;> omega
    rw [listA, List.length_cons]; omega
theorem s_l20List (xs : List Int) (hn : Nums xs) (hl : xs.length ≤ 1000000) : A 27 [L 1 (ints xs)] (S (listA ⟨#[]⟩ 0 xs)) [.undef] := by
  have hll : (ints xs).length = xs.length := by simp
  refine ac [] [] (fn := Tryd.f27) rfl (by kernel_rfl) [0, 2, 3, 4, 8, 12] ?_
  refine lp (fun i : Nat × ByteArray => i.1 ≤ xs.length ∧ listA ⟨#[]⟩ 0 xs = listA i.2 i.1 (xs.drop i.1) ∧ i.2.size ≤ 20 * i.1)
    (fun i => ⟨[(0, L 1 (ints xs)), (2, S ⟨#[]⟩), (3, S i.2), (4, I i.1), (8, .undef), (12, .undef)], [], []⟩) (fun i => xs.length - i.1) ⟨(0, ⟨#[]⟩), [], [], ⟨by omega, rfl, by decide⟩, ?_⟩ (fun i hI => ?_)
  · (refine And.intro trivial (And.intro rfl ?_); repeat' (first | exact trivial | exact rfl | refine And.intro ?_ ?_ | (refine fitI ?_; ((repeat rw [wrap_id (by omega) (by omega)]) <;> first | rfl | omega))))
  · obtain ⟨i, acc⟩ := i
    obtain ⟨h0, hf, hs⟩ := hI
    dsimp only at h0 hf hs
    conv => whnf
    refine Br_intro (fun h1 => ?_) (fun h1 => ?_)
    · have hi : i < xs.length := by simpa using h1
      have hd : xs.drop i = xs[i] :: xs.drop (i + 1) := List.drop_eq_getElem_cons hi
      have hx := hn xs[i] (List.getElem_mem hi)
      have hsz := decS_len hx.1 hx.2
      have hc : comma.size = 1 := rfl
      have hdec := s_l01Dec _ xs[i] rfl hx.1 hx.2
      rw [hd, listA] at hf
      conv => whnf
      refine Br_intro (fun h2 => ?_) (fun h2 => ?_)
      · have h2' : 0 < i := by simpa using h2
        rw [if_neg (by omega)] at hf
        have hsz2 : (acc ++ comma).size = acc.size + 1 := by rw [ByteArray.size_append, hc]
        conv => whnf
        refine And.intro (by have e1 : (⟨#[44]⟩ : ByteArray).size = 1 := rfl; dsimp only; omega) ?_
        conv => whnf
        refine ⟨by omega, _, ints_at hi, ?_⟩
        conv => whnf
        refine call hdec ?_
        conv => whnf
        refine And.intro (by have e : (acc ++ ⟨#[44]⟩ : ByteArray).size = acc.size + 1 := hsz2; dsimp only; omega) ?_
        refine ⟨(i + 1, acc ++ comma ++ decS xs[i]), [], [], ⟨by dsimp only; omega, hf, ?_⟩, by dsimp only; omega, ?_⟩
        · dsimp only; rw [ByteArray.size_append]; omega
        · (refine And.intro trivial (And.intro rfl ?_); repeat' (first | exact trivial | exact rfl | refine And.intro ?_ ?_ | (refine fitI ?_; ((repeat rw [wrap_id (by omega) (by omega)]) <;> first | rfl | omega))))
      · have h2' : i = 0 := by simp at h2; omega
        rw [if_pos h2'] at hf
        conv => whnf
        refine ⟨by omega, _, ints_at hi, ?_⟩
        conv => whnf
        refine call hdec ?_
        conv => whnf
        refine And.intro (by dsimp only; omega) ?_
        refine ⟨(i + 1, acc ++ decS xs[i]), [], [], ⟨by dsimp only; omega, hf, ?_⟩, by dsimp only; omega, ?_⟩
        · dsimp only; rw [ByteArray.size_append]; omega
        · (refine And.intro trivial (And.intro rfl ?_); repeat' (first | exact trivial | exact rfl | refine And.intro ?_ ?_ | (refine fitI ?_; ((repeat rw [wrap_id (by omega) (by omega)]) <;> first | rfl | omega))))
    · have hi : i = xs.length := by simp at h1; omega
      rw [hi, List.drop_length, listA] at hf
      conv => whnf
      refine isR (congrArg S hf.symm) rfl
def wordsAt (xs : List Int) (i : Nat) : List ByteArray := (xs.take i).map decS ++ List.replicate (xs.length - i) ⟨#[]⟩
theorem wordsAt_len (xs : List Int) (i : Nat) (h : i ≤ xs.length) : (wordsAt xs i).length = xs.length := by simp [wordsAt]; omega
theorem wordsAt_step (xs : List Int) (i : Nat) (h : i < xs.length) : (wordsAt xs i).set i (decS xs[i]) = wordsAt xs (i + 1) := by
  have e : xs.length - i = (xs.length - (i + 1)) + 1 := by omega
  have hl : ((xs.take i).map decS).length = i := by simp; omega
  rw [wordsAt, wordsAt, e, List.replicate_succ, List.set_append_right _ _ (by omega), hl, Nat.sub_self, List.set_cons_zero, List.take_succ_eq_append_getElem h]
  simp only [List.map_append, List.map_cons, List.map_nil, List.append_assoc, List.cons_append, List.nil_append]
theorem rowE {k : Nat} {rows rows' : Rows} (h : rows = rows') : AV.rowc k rows = AV.rowc k rows' := by rw [h]
theorem strs_set (ss : List ByteArray) (i : Nat) (s : ByteArray) : (strs ss).set i [TV.v (.string s)] = strs (ss.set i s) := by simp [strs, List.map_set]
theorem i_join (xs : List Int) (hn : Nums xs) (hl : xs.length ≤ 1000000) : A 22 [L 1 (ints xs), S comma] (S (listA ⟨#[]⟩ 0 xs)) [.undef, .undef] := by
  have hll : (ints xs).length = xs.length := by simp
  have hsz := listA_size xs ⟨#[]⟩ 0 hn
  have hj : A 48 [L 1 (strs (xs.map decS)), S comma] (S (listA ⟨#[]⟩ 0 xs)) [.undef, .undef] := by
    rw [listA_join] at hsz ⊢
    exact g_Join _ _ (by simp; omega) (by have : (⟨#[]⟩ : ByteArray).size = 0 := rfl; omega)
  generalize listA ⟨#[]⟩ 0 xs = R at hj
  refine ac [] [] (fn := Tryd.f22) rfl (by kernel_rfl) [0, 1, 4, 5, 6, 7, 11, 12, 13, 14] ?_
  conv => whnf
  refine And.intro (by refine ⟨by omega, by omega, by omega, ?_⟩; show (_ : Int) * ((16 : Nat) : Int) ≤ _; omega) ?_
  refine lp (fun i => i ≤ xs.length) (fun i => ⟨[(0, L 1 (ints xs)), (1, S comma), (4, S ⟨#[]⟩), (5, .own (.site 10) 1), (6, .undef), (7, .undef), (11, L 1 (ints xs)), (12, I xs.length), (13, I i), (14, .undef)], [(.site 10, .row false 1 (strs (wordsAt xs i)))], []⟩) (fun i => xs.length - i) ⟨0, [], [], by omega, ?_⟩ (fun i hI => ?_)
  · (refine And.intro trivial (And.intro rfl ?_); repeat' (first | exact trivial | exact rfl | refine And.intro ?_ ?_ | (refine fitI ?_; ((repeat rw [wrap_id (by omega) (by omega)]) <;> first | rfl | omega))))
    refine rowE ?_
    simp [wordsAt, strs]
  · conv => whnf
    refine Br_intro (fun h1 => ?_) (fun h1 => ?_)
    · have hi : i < xs.length := by simpa using h1
      have hx := hn xs[i] (List.getElem_mem hi)
      have hlen : (strs (wordsAt xs i)).length = xs.length := by simp [strs, wordsAt_len xs i hI]
      conv => whnf
      refine ⟨by omega, _, ints_at hi, ?_⟩
      conv => whnf
      refine call (i_decimal _ (by omega) (by omega)) ?_
      conv => whnf
      refine And.intro (by omega) ?_
      conv => whnf
      refine And.intro (by omega) ?_
      refine ⟨i + 1, [], [], by omega, by omega, ?_⟩
      (refine And.intro trivial (And.intro rfl ?_); repeat' (first | exact trivial | exact rfl | refine And.intro ?_ ?_ | (refine fitI ?_; ((repeat rw [wrap_id (by omega) (by omega)]) <;> first | rfl | omega))))
      refine rowE ?_
      exact (strs_set _ _ _).trans (congrArg strs (wordsAt_step xs i hi))
    · have hi : i = xs.length := by simp at h1; omega
      have hw : wordsAt xs i = xs.map decS := by rw [wordsAt, hi]; simp
      rw [← hw] at hj
      conv => whnf
      refine call hj ?_
      conv => whnf
      refine isR rfl rfl
end Go.Proofs.YtaklcemgpinleaaDoor
