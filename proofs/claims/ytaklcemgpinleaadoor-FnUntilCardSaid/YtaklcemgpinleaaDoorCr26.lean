/- Contracts of the library's functions, off the shelf; words on the program's side. -/
import Derived.Test.YtaklcemgpinleaaDoorCr24
import Derived.Test.YtaklcemgpinleaaDoorShelf
import Derived.Lib.ItoaNum
import Derived.Below
import Derived.Sort.Grow
import Derived.Deep.Draws
namespace Go.Proofs.YtaklcemgpinleaaDoor
open Go Go.RowKit Go.Sort Go
set_option linter.unusedSimpArgs false
set_option linter.unusedVariables false
set_option linter.unnecessarySimpa false
set_option linter.unusedSectionVars false
set_option maxRecDepth 100000
theorem has_of {f : FuncId} {fn : Func} (hf : Tryd.prog.funcs[f]? = some fn) (h1 : (fn.name == "runtime.NumGoroutine") = false) (h2 : fn.body.isNone = false) : Has Tryd.prog f := ⟨fn, hf, h1, h2⟩
theorem relA2 {h : IH} {w : World} {a b : Value} {vs : Array Value} {bs : List Nat} (hr : RelA h w [.t (.v a), .t (.v b)] vs.toList bs) : vs = #[a, b] ∧ bs = [] := by
  match hv : vs.toList, hr with
  | [v, u], ⟨b1, b2, ⟨h1, e1⟩, ⟨b3, b4, ⟨h3, e3⟩, e4, e5⟩, e6⟩ =>
    subst e1 e3 e4 e5 e6
    cases h1; cases h3
    exact ⟨Array.toList_inj.1 (by rw [hv]), rfl⟩
theorem ac2 {f : FuncId} {a b c : Value} (hf : Has Tryd.prog f) (hc : scalar c = true) (hcall : ∀ w, Calls Tryd.prog f #[a, b] w fun e w' => e = .returned c ∧ w' = w) : A f [.t (.v a), .t (.v b)] (.t (.v c)) [.undef, .undef] := by
  refine ⟨hf, fun w h vs bs hG hon hr hnd hb => ?_⟩
  obtain ⟨rfl, rfl⟩ := relA2 hr
  refine (hcall w).mono ?_
  rintro e w' ⟨rfl, rfl⟩
  exact ⟨c, h, [], [], rfl, IH.le_refl h, hon, ⟨.v hc, rfl⟩, ⟨[], [], rfl, ⟨[], [], rfl, rfl, rfl⟩, rfl⟩, by simp, by simp, fun _ _ => .inl, Fr.refl _ _⟩
def idxB (s : ByteArray) (b : UInt8) : Int := Lib.indexByte s.data.toList b
theorem g_IndexByte (s : ByteArray) (b : UInt8) : A 85 [S s, U8 b] (I (idxB s b)) [.undef, .undef] := by
  have h := fun w => Tryd.strings_IndexByte s (b.toNat : Int) w
  simp only [Int.toNat_natCast, UInt8.ofNat_toNat, Nat.toUInt8_eq] at h
  exact ac2 (has_of rfl (by kernel_rfl) (by kernel_rfl)) rfl h
theorem rowsAt_scal {h : IH} {cs : Array Value} {off : Nat} {xs : List Value} (hr : RowsAt h cs off 1 (xs.map fun x => [TV.v x])) {i : Nat} {x : Value} (hi : xs[i]? = some x) : cs[off + i]? = some x := by
  obtain ⟨_, val, h1, h2⟩ := hr
  have e : (xs.map fun x => [TV.v x])[i]? = some [TV.v x] := by simp [hi]
  have a := h1 i 0 _ _ e rfl
  have b := h2 i 0 _ _ e rfl
  rw [Nat.mul_one, Nat.add_zero] at a
  cases b
  exact a
theorem rowsAt_all {h : IH} {cs : Array Value} {xs : List Value} (hr : RowsAt h cs 0 1 (xs.map fun x => [TV.v x])) (hl : cs.size = xs.length) : cs = xs.toArray := by
  apply Array.ext_getElem?
  intro i
  by_cases hi : i < xs.length
  · have := rowsAt_scal hr (List.getElem?_eq_getElem hi)
    rw [Nat.zero_add] at this
    rw [this]; simp [hi]
  · rw [Array.getElem?_eq_none (by omega)]; simp; omega
theorem frame_below {w w' : World} {h : IH} (hb : Below w.heap.size w w') (hon : h.on w) : h.on w' ∧ Fr w w' [] := by
  refine ⟨fun b o ho => ?_, ⟨hb.os, hb.tape, hb.output, hb.size, fun b h1 _ => hb.block b h1, fun _ _ _ _ hm => absurd hm (by simp)⟩⟩
  have := hon b o ho
  rw [hb.block b (by rcases Nat.lt_or_ge b w.heap.size with h | h; exact h; rw [Array.getElem?_eq_none h] at this; cases this), this]
theorem frame_grow {w : World} {h : IH} (k : Nat) (os : Array Obj) (hon : h.on w) : h.on (grow (w.drewN k) os) ∧ Fr w (grow (w.drewN k) os) [] := by
  refine frame_below ⟨rfl, rfl, rfl, by simp [grow, World.drewN], fun b hb => ?_⟩ hon
  simp only [grow, World.drewN]
  rw [Array.getElem?_append_left hb]
/-- a decimal numeral -/
def decS (n : Int) : ByteArray := ⟨(Lib.itoa n).toArray⟩
end Go.Proofs.YtaklcemgpinleaaDoor
