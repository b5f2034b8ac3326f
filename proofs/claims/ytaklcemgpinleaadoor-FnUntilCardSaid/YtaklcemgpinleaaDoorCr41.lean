/- From the contract of a law to its walk; the listed variables. -/
import Derived.Test.YtaklcemgpinleaaDoorRows
import Derived.Test.YtaklcemgpinleaaDoorCr22
import Derived.WalkKit
import Derived.ProofKit
import Derived.OpenShut
import Derived.ShutString
import Derived.ChangeOld
import Derived.ChangeVars
import Derived.Below
import Derived.Lib.LaidTab
import Derived.LaidMore
namespace Go.Proofs.YtaklcemgpinleaaDoor
open Go Go.ChangeShapes Go.WideShapes Go.ChangeAt Go.RowKit
set_option linter.unusedSimpArgs false
set_option linter.unusedVariables false
set_option linter.unnecessarySimpa false
set_option linter.unusedSectionVars false
set_option maxRecDepth 100000
/-- What a walk is told of a slice of bytes that came in. -/
def ByteRow (w : World) (a : Option Addr) (len cap : Nat) (zs : List Int) : Prop :=
  (a = none ∧ len = 0 ∧ cap = 0 ∧ zs = []) ∨
  ∃ b off cs T fr, a = some ⟨b, off, none⟩ ∧ w.heap[b]? = some (.cells cs T fr) ∧ len ≤ cap ∧ zs.length = cap ∧ (∀ i, i < zs.length → cs[off + i]? = some (.int .u8 (zs.getD i 0))) ∧ ∀ n ∈ zs, 0 ≤ n ∧ n ≤ 255
abbrev bytes0 (s : List UInt8) : Rows := s.map fun b => [TV.v (.int .u8 b.toNat)]
def allH (w : World) : IH := fun b => w.heap[b]?
theorem rep_bytes {w : World} {a : Option Addr} {len cap : Nat} {zs : List Int} (h : ByteRow w a len cap zs) : ∃ xs : List UInt8, Rep (allH w) (.sl 1 (bytes0 xs)) (.slice a len cap) := by
  rcases h with ⟨rfl, rfl, rfl, rfl⟩ | ⟨b, off, cs, T, fr, rfl, hb, hl, hz, hc, hw⟩
  · exact ⟨[], .nil⟩
  · refine ⟨(zs.take len).map fun n => UInt8.ofNat n.toNat, ?_⟩
    have hlen : (bytes0 ((zs.take len).map fun n => UInt8.ofNat n.toNat)).length = len := by simp; omega
    refine Rep.sl_mk (h := allH w) hb (by rw [hlen]; exact hl) (RowsAt.of_cells (fun r hr => ?_) (fun i r hi => ?_)) hlen.symm
    · simp only [List.mem_map] at hr; obtain ⟨_, _, rfl⟩ := hr; rfl
    · simp only [List.map_map, List.getElem?_map, Option.map_eq_some_iff] at hi
      obtain ⟨n, hn, rfl⟩ := hi
      have hi1 : i < (zs.take len).length := (List.getElem?_eq_some_iff.1 hn).1
      have hi2 : i < len ∧ i < zs.length := by rw [List.length_take] at hi1; omega
      have hn' : zs[i]? = some n := by rw [List.getElem?_take] at hn; split at hn; exact hn; cases hn
      have hg : zs.getD i 0 = n := by rw [List.getD_eq_getElem?_getD, hn']; rfl
      have hnm := hw n (List.mem_of_getElem? hn')
      intro j x hj
      cases j with
      | zero =>
        simp at hj; subst hj
        refine ⟨.int .u8 n, ?_, ?_⟩
        · have := hc i hi2.2; rw [hg] at this
          simpa using this
        · have e : max n 0 % 256 = n := by omega
          rw [e]; exact .v rfl
      | succ j => simp at hj
theorem law_walk {f : FuncId} (hA : ∀ xs : List UInt8, A f [L 1 (bytes0 xs)] (B true) [.undef]) {w : World} (hG : GOK gl (allH w)) {a : Option Addr} {len cap : Nat} {zs : List Int} (h : ByteRow w a len cap zs) :
    Calls Tryd.prog f #[.slice a len cap] w fun e w' => e = .returned (.bool true) ∧ Below w.heap.size w w' := by
  obtain ⟨xs, hr⟩ := rep_bytes h
  refine ((hA xs).2 w (allH w) #[.slice a len cap] [] hG (fun _ _ => id) ⟨[], [], ⟨hr, rfl⟩, rfl, rfl⟩ (by simp) (by simp)).mono ?_
  rintro e w' ⟨cv, h', rb, ob, rfl, _, _, hrel, _, _, _, _, hfr⟩
  have hcv : cv = .bool true := by
    obtain ⟨hrep, _⟩ := (show RelC h' w' (.t (.v (.bool true))) cv rb from hrel)
    cases hrep; rfl
  exact ⟨by rw [hcv], ⟨hfr.os, hfr.tape, hfr.output, hfr.size, fun k hk => hfr.keep k hk (by simp)⟩⟩
theorem strs_of_data {H : Type} {enc : TypeId × Value → H} {P : Program} {w : World} {base : Nat} {sp : Nat → Bool} {held : Bool} {fuel : Nat} {t e : TypeId} {n : Nat} {cs : List Value} {zs : List ByteArray} {p : List MemPlace}
    (ht : P.underlying t = some (.array n e)) (he : P.underlying e = some .string) (hce : P.cellsOf e = 1) (hct : P.cellsOf t = n)
    (h : DataW.trod enc P w base sp held fuel t cs = some (.agg (zs.map fun s => .lit (.string s.data.toList)), p)) : cs = zs.map Value.string := by
  cases fuel with
  | zero => simp [DataW.trod] at h
  | succ fuel =>
    simp only [DataW.trod, ht, hce, Nat.mul_one] at h
    split at h
    · rename_i hl
      obtain ⟨xs, hm, hx⟩ := Option.map_eq_some_iff.1 h
      have hxs : xs.map (·.1) = zs.map fun s => (DataW.lit (.string s.data.toList) : DataW H) := by
        have := congrArg Prod.fst hx
        simpa using this
      have hxl : xs.length = n := by simpa using Lib.mapM_length hm
      have hzl : zs.length = n := by
        have := congrArg List.length hxs
        simp at this
        omega
      have hsz : cs.length = n := by
        rw [hl, hct]
      apply List.ext_getElem?
      intro i
      by_cases hi : i < n
      · obtain ⟨b, hb, hf⟩ := Lib.mapM_at hm i i (by simp [hi])
        obtain ⟨z, hc, rfl, _⟩ := DataW.trod_string he hf
        have h1 : cs[i]? = some (.string z) := by
          have := congrArg (·[0]?) hc
          simpa [List.getElem?_take, List.getElem?_drop] using this
        have h2 : (xs.map (·.1))[i]? = some (DataW.lit (.string z.data.toList) : DataW H) := by simp [hb]
        rw [hxs] at h2
        simp only [List.getElem?_map, Option.map_eq_some_iff, DataW.lit.injEq, Lit.string.injEq] at h2
        obtain ⟨z', hz', hzz⟩ := h2
        have : z' = z := ByteArray.ext (Array.toList_inj.1 hzz)
        subst this
        simp [h1, hz']
      · rw [List.getElem?_eq_none (by omega), List.getElem?_eq_none (by simp; omega)]
    · cases h
theorem rows_of_scal {h : IH} {cs : Array Value} {xs : List Value} (hs : ∀ x ∈ xs, scalar x = true) (e : cs.toList = xs) : cs.size = (xs.map fun x => [TV.v x]).length ∧ RowsAt h cs 0 1 (xs.map fun x => [TV.v x]) := by
  refine ⟨by rw [← e]; simp, RowsAt.of_cells (fun r hr => ?_) (fun i r hi => ?_)⟩
  · simp only [List.mem_map] at hr; obtain ⟨_, _, rfl⟩ := hr; rfl
  · simp only [List.getElem?_map, Option.map_eq_some_iff] at hi
    obtain ⟨x, hx, rfl⟩ := hi
    intro j y hj
    cases j with
    | zero =>
      simp at hj; subst hj
      refine ⟨x, ?_, .v (hs x (List.mem_of_getElem? hx))⟩
      rw [← e] at hx
      simpa using hx
    | succ j => simp at hj
end Go.Proofs.YtaklcemgpinleaaDoor
