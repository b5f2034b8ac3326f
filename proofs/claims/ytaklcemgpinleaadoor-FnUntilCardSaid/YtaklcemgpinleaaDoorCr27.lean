/- Contracts of the library's functions that write numbers and join words. -/
import Derived.Test.YtaklcemgpinleaaDoorCr26
namespace Go.Proofs.YtaklcemgpinleaaDoor
open Go Go.RowKit Go.Sort Go
set_option linter.unusedSimpArgs false
set_option linter.unusedVariables false
set_option linter.unnecessarySimpa false
set_option linter.unusedSectionVars false
set_option maxRecDepth 100000
theorem tab_of {w : World} {h : IH} (hG : GOK gl h) (hon : h.on w) : Lib.TabIs Tryd.prog w "internal/strconv.uint64pow10" .u64 Lib.pow10Tab := by
  obtain ⟨cs, T, fr, hb, hsz, hr⟩ := hG 1 _ rfl
  have e : cs = (pow10s.map fun x => Value.int .u64 x).toArray := rowsAt_all (h := h) (by rw [List.map_map]; exact hr) (by simpa using hsz)
  have hg : Tryd.prog.globalNamed "internal/strconv.uint64pow10" = some 1 := by kernel_rfl
  simp only [Lib.TabIs, World.var?, hg, Option.bind_some, hon 1 _ hb, e]
  rfl
theorem g_FormatInt (n : Int) (h0 : -9223372036854775808 ≤ n) (h1 : n ≤ 9223372036854775807) : A 47 [I n, I 10] (S (decS n)) [.undef, .undef] := by
  refine ⟨has_of rfl (by kernel_rfl) (by kernel_rfl), fun w h vs bs hG hon hr hnd hb => ?_⟩
  obtain ⟨rfl, rfl⟩ := relA2 hr
  refine (Tryd.strconv_FormatInt_10 n h0 h1 w (tab_of hG hon)).mono ?_
  rintro e w' ⟨rfl, k, os, rfl⟩
  obtain ⟨g1, g2⟩ := frame_grow k os hon
  exact ⟨_, h, [], [], rfl, IH.le_refl h, g1, ⟨.v rfl, rfl⟩, ⟨[], [], rfl, ⟨[], [], rfl, rfl, rfl⟩, rfl⟩, by simp, by simp, fun _ _ => .inl, g2⟩
def joinS (xs : List ByteArray) (sep : ByteArray) : ByteArray := ⟨(Lib.join (xs.map (·.data.toList)) sep.data.toList).toArray⟩
theorem g_Join (xs : List ByteArray) (sep : ByteArray) (hN : xs.length ≤ 140737488355328) (hlen : (joinS xs sep).size ≤ 140737488355328) : A 48 [L 1 (strs xs), S sep] (S (joinS xs sep)) [.undef, .undef] := by
  refine ⟨has_of rfl (by kernel_rfl) (by kernel_rfl), fun w h vs bs hG hon hr hnd hb => ?_⟩
  have hlen' : (Lib.join (xs.map (·.data.toList)) sep.data.toList).length ≤ 140737488355328 := by simpa [joinS, ByteArray.size] using hlen
  match hv : vs.toList, hr with
  | [v, u], ⟨b1, b2, ⟨h1, e1⟩, ⟨b3, b4, ⟨h3, e3⟩, e4, e5⟩, e6⟩ =>
    subst e1 e3 e4 e5 e6
    cases h3
    obtain rfl : vs = #[v, .string sep] := Array.toList_inj.1 (by rw [hv])
    have fin : ∀ (e : Ending) (w' : World), (e = .returned (.string (joinS xs sep)) ∧ Below w.heap.size w w') → ∃ cv h' rb ob, e = .returned cv ∧ h.le h' ∧ h'.on w' ∧ RelR h' w' (S (joinS xs sep)) cv rb ∧ RelA h' w' [.undef, .undef] [v, .string sep] ob ∧ (rb ++ ob).Nodup ∧
      (∀ b ∈ rb ++ ob, h' b = none ∧ (b ∈ ([] : List Nat) ∨ w.heap.size ≤ b)) ∧ (∀ b o, h' b = some o → h b = some o ∨ b ∈ ([] : List Nat) ∨ w.heap.size ≤ b) ∧ Fr w w' [] := by
      rintro e w' ⟨rfl, hbw⟩
      obtain ⟨g1, g2⟩ := frame_below hbw hon
      exact ⟨_, h, [], [], rfl, IH.le_refl h, g1, ⟨.v rfl, rfl⟩, ⟨[], [], rfl, ⟨[], [], rfl, rfl, rfl⟩, rfl⟩, by simp, by simp, fun _ _ => .inl, g2⟩
    obtain ⟨hx0, rfl⟩ | ⟨b, off, cap, cs, T, fr, rfl, hb', hcap, hra⟩ := Rep.sl_inv h1
    · obtain rfl : xs = [] := by simpa using hx0
      exact (Tryd.strings_Join_none none 0 sep w).mono fun e w' ⟨he, hw⟩ => fin e w' ⟨he, hw ▸ Below.refl _ _⟩
    · have hl : (strs xs).length = xs.length := by simp
      rw [hl] at hcap ⊢
      have hwb := hon b _ hb'
      have hlt : b < w.heap.size := by rcases Nat.lt_or_ge b w.heap.size with h | h; exact h; rw [Array.getElem?_eq_none h] at hwb; cases hwb
      refine (Tryd.strings_Join b off cap xs sep w (fun j x hj => ?_) hlt hN hcap hlen').mono fin
      have hra' : RowsAt h cs off 1 ((xs.map Value.string).map fun x => [TV.v x]) := by rw [List.map_map]; exact hra
      have := rowsAt_scal hra' (i := j) (x := .string x) (by simp [hj])
      simp [World.cell?, hwb, this]
end Go.Proofs.YtaklcemgpinleaaDoor
