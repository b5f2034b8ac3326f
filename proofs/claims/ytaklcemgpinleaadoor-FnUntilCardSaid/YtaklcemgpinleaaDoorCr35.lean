/- Decimal numerals: the reference's. -/
import Derived.Test.YtaklcemgpinleaaDoorCr26
import Derived.Test.YtaklcemgpinleaaDoorCr32
namespace Go.Proofs.YtaklcemgpinleaaDoor
open Go
set_option linter.unusedSimpArgs false
set_option linter.unusedVariables false
set_option linter.unnecessarySimpa false
set_option linter.unusedSectionVars false
set_option maxRecDepth 100000
theorem bytesAre (s : ByteArray) : BytesAre (bytesOf s) (S s) [] := ⟨s, rfl, rfl, rfl⟩
theorem decS_small {n : Int} (h0 : 0 ≤ n) (h1 : n < 10) : decS n = ⟨#[UInt8.ofNat (48 + n.toNat)]⟩ := by
  rw [decS, Lib.itoa, if_neg (by omega), Lib.decDigits, dif_pos (by omega)]
theorem decS_big {n : Int} (h0 : 10 ≤ n) : decS n = decS (n / 10) ++ ⟨#[UInt8.ofNat (48 + (n % 10).toNat)]⟩ := by
  apply ByteArray.ext
  rw [ByteArray.data_append]
  apply Array.toList_inj.1
  rw [Array.toList_append]
  simp only [decS]
  rw [Lib.itoa, if_neg (by omega), Lib.decDigits, dif_neg (by omega), Lib.itoa, if_neg (by omega)]
  have e1 : n.toNat / 10 = (n / 10).toNat := by omega
  have e2 : n.toNat % 10 = (n % 10).toNat := by omega
  simp [e1, e2]
theorem decDigits_len : ∀ (d u : Nat), u < 10 ^ (d + 1) → (Lib.decDigits u).length ≤ d + 1
  | 0, u, h => by rw [Lib.decDigits, dif_pos (by simpa using h)]; simp
  | d + 1, u, h => by
    rw [Lib.decDigits]
    split
    · simp
    · have := decDigits_len d (u / 10) (by rw [Nat.pow_succ] at h; omega)
      simp; omega
theorem decS_len {n : Int} (h0 : 0 ≤ n) (h1 : n ≤ 9223372036854775807) : (decS n).size ≤ 19 := by
  have := decDigits_len 18 n.toNat (by have : (10 : Nat) ^ 19 = 10000000000000000000 := by decide
                                       omega)
  rw [decS, Lib.itoa, if_neg (by omega)]
  exact this
theorem byte_row {x : Int} {b : UInt8} (h : x = (b.toNat : Int)) : BytesAre [[TV.v (.int .u8 x)]] (S ⟨#[b]⟩) [] := ⟨⟨#[b]⟩, rfl, by rw [h]; rfl, rfl⟩
theorem digit_byte {d : Int} (h0 : 0 ≤ d) (h1 : d < 10) : IntKind.u8.wrap (IntKind.i64.wrap (48 + d)) = ((UInt8.ofNat (48 + d.toNat)).toNat : Int) := by
  rw [wrap_id (by omega) (by omega)]
  have : (UInt8.ofNat (48 + d.toNat)).toNat = 48 + d.toNat := by simp; omega
  rw [this, IntKind.wrap_u8]; omega
theorem s_l01Dec : ∀ (m : Nat) (n : Int), n.toNat = m → 0 ≤ n → n ≤ 9223372036854775807 → A 26 [I n] (S (decS n)) [.undef] := by
  intro m
  induction m using Nat.strongRecOn with
  | _ m ih =>
    intro n hm h0 h1
    refine ac [] [] (fn := Tryd.f26) rfl (by kernel_rfl) [0, 2, 4] ?_
    conv => whnf
    refine Br_intro (fun h => ?_) (fun h => ?_)
    · have h' : n < 10 := by simpa using h
      conv => whnf
      refine call (byte_row (digit_byte h0 h')) ?_
      conv => whnf
      refine isR (congrArg S (decS_small h0 h').symm) rfl
    · have h' : 10 ≤ n := by simpa using h
      have hq : IntKind.i64.wrap (n.tdiv 10) = n / 10 := by
        rw [wrap_id] <;> rw [Int.tdiv_eq_ediv_of_nonneg h0] <;> omega
      have hc := ih (n / 10).toNat (by omega) (n / 10) rfl (by omega) (by omega)
      have hr : n.tmod 10 = n % 10 := Int.tmod_eq_emod_of_nonneg h0
      have hc' : A 26 [I (IntKind.i64.wrap (n.tdiv 10))] (S (decS (n / 10))) [.undef] := by rw [hq]; exact hc
      have hby : IntKind.u8.wrap (IntKind.i64.wrap (48 + n.tmod 10)) = ((UInt8.ofNat (48 + (n % 10).toNat)).toNat : Int) := by rw [hr]; exact digit_byte (by omega) (by omega)
      have hl := decS_len (n := n / 10) (by omega) (by omega)
      refine And.intro (by decide) ?_
      conv => whnf
      refine call hc' ?_
      refine And.intro (by decide) ?_
      conv => whnf
      refine call (byte_row hby) ?_
      refine And.intro (by have : (⟨#[UInt8.ofNat (48 + (n % 10).toNat)]⟩ : ByteArray).size = 1 := rfl; omega) ?_
      refine And.intro (by kernel_rfl) ?_
      conv => whnf
      refine isR (congrArg S (decS_big h').symm) rfl
end Go.Proofs.YtaklcemgpinleaaDoor
