/- Contracts of blocks: a scan at every kind; and loops of scans. -/
import Derived.Test.YtaklcemgpinleaaDoorCr31
namespace Go.Proofs.YtaklcemgpinleaaDoor
open Go
set_option linter.unusedSimpArgs false
set_option linter.unusedVariables false
set_option linter.unnecessarySimpa false
set_option linter.unusedSectionVars false
set_option maxRecDepth 100000
theorem kinds {k : Int} (h0 : 7 ≤ k) (h1 : k ≤ 12) : k = 7 ∨ k = 8 ∨ k = 9 ∨ k = 10 ∨ k = 11 ∨ k = 12 := by omega
theorem s_l15Step (t : Tm) (s : Bs) (x y : Int) (hB : blockB t = true) (hP : possB t s = true) (hx : x = 0 ∨ x = 1) (hy : y = 0 ∨ y = 1) :
    A 18 [T t, BS s, L 1 (ints (argL t.k x y))] (VS (stepF t.k t.n s x y)) [U3, U3, .undef] := by
  obtain ⟨h1, h2, h3, h4⟩ := block_facts hB
  obtain ⟨k, nm, n⟩ := t
  obtain ⟨a, b, c⟩ := s
  dsimp only at *
  rcases kinds h1 h2 with rfl | rfl | rfl | rfl | rfl | rfl <;> simp [possB, inR] at hP
  · obtain ⟨⟨p1, p2⟩, rfl, rfl⟩ := hP
    exact s_step7 nm n ⟨h3, h4⟩ a ⟨p1, p2⟩ x y hx hy
  · obtain ⟨⟨p1, p2⟩, rfl, rfl⟩ := hP
    exact s_step8 nm n ⟨h3, h4⟩ a ⟨p1, p2⟩ x y hx hy
  · obtain ⟨⟨p1, p2⟩, rfl, rfl⟩ := hP
    exact s_step9 nm n ⟨h3, h4⟩ a ⟨p1, p2⟩ x y hx hy
  · obtain ⟨⟨p1, p2⟩, rfl, rfl⟩ := hP
    exact s_step10 nm n ⟨h3, h4⟩ a ⟨p1, p2⟩ x y hx hy
  · obtain ⟨⟨p1, p2⟩, p3, rfl⟩ := hP
    exact s_step11 nm n ⟨h3, h4⟩ a b ⟨p1, p2⟩ p3 x y hx hy
  · obtain ⟨rfl, hP⟩ := hP
    exact s_step12 nm n ⟨h3, h4⟩ a c (by omega) (by omega) x y hx hy
theorem i_step (t : Tm) (s : Bs) (x y : Int) (hB : blockB t = true) (hP : possB t s = true) (hx : x = 0 ∨ x = 1) (hy : y = 0 ∨ y = 1) :
    A 16 [T t, BS s, L 1 (ints (argL t.k x y))] (VS (stepF t.k t.n s x y)) [U3, U3, .undef] := by
  obtain ⟨h1, h2, h3, h4⟩ := block_facts hB
  obtain ⟨k, nm, n⟩ := t
  obtain ⟨a, b, c⟩ := s
  dsimp only at *
  rcases kinds h1 h2 with rfl | rfl | rfl | rfl | rfl | rfl <;> simp [possB, inR] at hP
  · obtain ⟨⟨p1, p2⟩, rfl, rfl⟩ := hP
    exact i_step7 nm n ⟨h3, h4⟩ a ⟨p1, p2⟩ x y hx hy
  · obtain ⟨⟨p1, p2⟩, rfl, rfl⟩ := hP
    exact i_step8 nm n ⟨h3, h4⟩ a ⟨p1, p2⟩ x y hx hy
  · obtain ⟨⟨p1, p2⟩, rfl, rfl⟩ := hP
    exact i_step9 nm n ⟨h3, h4⟩ a ⟨p1, p2⟩ x y hx hy
  · obtain ⟨⟨p1, p2⟩, rfl, rfl⟩ := hP
    exact i_step10 nm n ⟨h3, h4⟩ a ⟨p1, p2⟩ x y hx hy
  · obtain ⟨⟨p1, p2⟩, p3, rfl⟩ := hP
    exact i_step11 nm n ⟨h3, h4⟩ a b ⟨p1, p2⟩ p3 x y hx hy
  · obtain ⟨rfl, hP⟩ := hP
    exact i_step12 nm n ⟨h3, h4⟩ a c (by omega) (by omega) x y hx hy
/-- a scan leads from a possible state to a possible one, and its value is a bit -/
theorem step_poss {t : Tm} {s : Bs} {x y : Int} (hB : blockB t = true) (hP : possB t s = true) (hx : x = 0 ∨ x = 1) (hy : y = 0 ∨ y = 1) :
    possB t (stepF t.k t.n s x y).2 = true ∧ ((stepF t.k t.n s x y).1 = 0 ∨ (stepF t.k t.n s x y).1 = 1) := by
  obtain ⟨h1, h2, h3, h4⟩ := block_facts hB
  obtain ⟨k, nm, n⟩ := t
  obtain ⟨a, b, c⟩ := s
  dsimp only at *
  rcases kinds h1 h2 with rfl | rfl | rfl | rfl | rfl | rfl <;> simp [possB, inR, stepF, pairF] at hP ⊢ <;> rcases hx with rfl | rfl <;> rcases hy with rfl | rfl <;> (try simp) <;> (repeat' split) <;> (try simp) <;> (try omega)
/-- arguments that a block takes are those of two bits -/
theorem bits_args {k : Int} {xs : List Int} (h0 : 7 ≤ k) (h1 : k ≤ 12) (hb : bitsB xs (takes k) = true) : ∃ x y, (x = 0 ∨ x = 1) ∧ (y = 0 ∨ y = 1) ∧ xs = argL k x y := by
  simp only [bitsB, Bool.and_eq_true, decide_eq_true_eq, List.all_eq_true] at hb
  obtain ⟨hl, ha⟩ := hb
  have hbit : ∀ z ∈ xs, z = 0 ∨ z = 1 := fun z hz => by have := ha z hz; simpa [bitB] using this
  by_cases hk : k = 7 ∨ k = 8 ∨ k = 9
  · have ht : takes k = 1 := by simp [takes]; omega
    rw [ht] at hl
    match xs, hl, hbit with
    | [x], _, hbit => exact ⟨x, 0, hbit x (by simp), .inl rfl, by simp [argL, hk]⟩
    | [], hl, _ => simp at hl
    | _ :: _ :: _, hl, _ => simp at hl; omega
  · have ht : takes k = 2 := by simp [takes]; omega
    rw [ht] at hl
    match xs, hl, hbit with
    | [x, y], _, hbit => exact ⟨x, y, hbit x (by simp), hbit y (by simp), by simp [argL, hk]⟩
    | [], hl, _ => simp at hl
    | [_], hl, _ => simp at hl
    | _ :: _ :: _ :: _, hl, _ => simp at hl; omega
end Go.Proofs.YtaklcemgpinleaaDoor
