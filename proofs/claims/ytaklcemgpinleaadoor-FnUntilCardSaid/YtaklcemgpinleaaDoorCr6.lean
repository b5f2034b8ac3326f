/- What the machine's operations do to memory, in the layer's words: lemmas, on no condition. -/
import Derived.Test.YtaklcemgpinleaaDoorCr5
import Derived.Laws.Cells
import Derived.Laws.World
import Derived.Laws.Append
import Derived.Laws.AppendOwn
import Derived.Laws.MakeOwn
import Derived.Laws.Slices
import Derived.Laws.Entries
namespace Go.Proofs.YtaklcemgpinleaaDoor
open Go
set_option linter.unusedSimpArgs false
set_option linter.unusedVariables false
set_option linter.unnecessarySimpa false
set_option linter.unusedSectionVars false

/-! ## The table of types -/
def dfltTI : TI := ⟨.other, 0, 8, .undef, false⟩
def DescOK (Γ : Nat → TI) (d : TypeDesc) (ti : TI) : Prop :=
  match ti.k with
  | .scal => match ti.zero with | .t (.v (.int K _)) => d = .int K | .t (.v (.bool _)) => d = .bool | .t (.v (.string _)) => d = .string | _ => False
  | .slice e => d = .slice e ∧ Γ e ≠ dfltTI
  | .strct fs => ∃ fields : Array Field, d = .struct fields ∧ fs = fields.toList.map fun x => (x.type, x.offset)
  | .arr n e => d = .array n e ∧ Γ e ≠ dfltTI
  | .other => match d with | .struct _ => False | .array _ _ => False | _ => True
structure Facts (P : Program) (Γ : Nat → TI) (T : Nat) : Prop where
  main : ∃ i d, P.info? T = some i ∧ P.underlying T = some d ∧ i.size = (Γ T).size ∧ i.bytes = (Γ T).bytes ∧ DescOK Γ d (Γ T)
  pos : 0 < (Γ T).size
  zero : (Γ T).zero ≠ .undef → ∃ i z, P.info? T = some i ∧ i.zero = some z ∧ zeroL (Γ T).zero.cells z.cells.toList = true ∧ (Γ T).zero.cells.length = (Γ T).size ∧
    (if (Γ T).isAgg then (∃ cs, z = .agg cs) ∧ (∃ zs, (Γ T).zero = .agg zs) else (∀ cs, z ≠ .agg cs) ∧ (∀ zs, (Γ T).zero ≠ .agg zs))
  ints : (Γ T).ints = true → ∃ fields : Array Field, P.underlying T = some (.struct fields) ∧ fields.size = (Γ T).size ∧ (∀ (j : Nat) (x : Field), fields[j]? = some x → x.offset = j ∧ x.name ≠ "_" ∧ ∃ K, P.underlying x.type = some (.int K) ∧ ∃ i, P.info? x.type = some i ∧ i.size = 1) ∧ P.stoodInHeld T = false ∧ P.eqGuardType P.depth T = false
def TyOK (P : Program) (Γ : Nat → TI) : Prop := ∀ T, Γ T = dfltTI ∨ Facts P Γ T
section
variable {P : Program} {Γ : Nat → TI} (hT : TyOK P Γ)
include hT
theorem TyOK.facts {T : Nat} (h : Γ T ≠ dfltTI) : Facts P Γ T := (hT T).resolve_left h
theorem TyOK.of_pos {T : Nat} (h : 0 < (Γ T).size) : Facts P Γ T := hT.facts fun e => by rw [e] at h; simp [dfltTI] at h
theorem TyOK.of_agg {T : Nat} (h : (Γ T).isAgg = true) : Facts P Γ T := hT.facts fun e => by rw [e] at h; simp [dfltTI, TI.isAgg] at h
theorem TyOK.slice {T e : Nat} (h : (Γ T).k = .slice e) : P.underlying T = some (.slice e) ∧ Facts P Γ e := by
  obtain ⟨i, d, _, h2, _, _, h5⟩ := (hT.facts (T := T) (fun q => by rw [q] at h; simp [dfltTI] at h)).main
  simp only [DescOK, h] at h5
  exact ⟨by rw [h2, h5.1], hT.facts h5.2⟩
theorem TyOK.arr {T n e : Nat} (h : (Γ T).k = .arr n e) : P.underlying T = some (.array n e) ∧ Facts P Γ e := by
  obtain ⟨i, d, _, h2, _, _, h5⟩ := (hT.facts (T := T) (fun q => by rw [q] at h; simp [dfltTI] at h)).main
  simp only [DescOK, h] at h5
  exact ⟨by rw [h2, h5.1], hT.facts h5.2⟩
theorem TyOK.strct {T : Nat} {fs : List (Nat × Nat)} (h : (Γ T).k = .strct fs) : ∃ fields : Array Field, P.underlying T = some (.struct fields) ∧ fs = fields.toList.map fun x => (x.type, x.offset) := by
  obtain ⟨i, d, _, h2, _, _, h5⟩ := (hT.facts (T := T) (fun q => by rw [q] at h; simp [dfltTI] at h)).main
  simp only [DescOK, h] at h5
  obtain ⟨fields, rfl, e⟩ := h5
  exact ⟨fields, h2, e⟩
end
section
variable {P : Program} {Γ : Nat → TI} {T : Nat} (hF : Facts P Γ T) (w : World)
include hF
theorem Facts.run_sizeOf : (sizeOf T).run P w = .ok (Γ T).size w := by
  obtain ⟨i, d, h1, _, h3, _⟩ := hF.main
  simp [sizeOf, typeInfo, h1, h3]
theorem Facts.run_isAgg : (isAgg T).run P w = .ok (Γ T).isAgg w := by
  obtain ⟨i, d, _, h2, _, _, h5⟩ := hF.main
  simp only [isAgg, Sem.run_bind, run_underlying h2, Result.andThen_ok]
  unfold DescOK at h5; unfold TI.isAgg
  split at h5
  · split at h5 <;> first | (subst h5; simp_all) | exact h5.elim
  · obtain ⟨rfl, _⟩ := h5; simp_all
  · obtain ⟨f, rfl, _⟩ := h5; simp_all
  · obtain ⟨rfl, _⟩ := h5; simp_all
  · split at h5 <;> simp_all
end

/-! ## Memory -/
theorem Addr.add_none (b off n : Nat) : (Addr.mk b off none).add n = ⟨b, off + n, none⟩ := by
  unfold Addr.add; split
  · rename_i h; simp [h]
  · rfl
theorem cell?_of {w : World} {b off : Nat} {cs : Array Value} {T : TypeId} {fr : Nat × Nat} (h : w.heap[b]? = some (.cells cs T fr)) : w.cell? ⟨b, off, none⟩ = cs[off]? := by simp [World.cell?, h]
theorem frozen?_of {w : World} {b off : Nat} {cs : Array Value} {T : TypeId} (h : w.heap[b]? = some (.cells cs T (0, 0))) : w.frozen? ⟨b, off, none⟩ = false := by simp [World.frozen?, h]
def putA (cs : Array Value) : Nat → List Value → Array Value
  | _, [] => cs
  | off, v :: vs => putA (cs.setIfInBounds off v) (off + 1) vs
theorem putA_size : ∀ {vs : List Value} {cs : Array Value} {off : Nat}, (putA cs off vs).size = cs.size
  | [], _, _ => rfl
  | _ :: vs, cs, off => by rw [putA, putA_size]; simp
theorem putA_get : ∀ {vs : List Value} {cs : Array Value} {off : Nat}, off + vs.length ≤ cs.size → ∀ j, (putA cs off vs)[j]? = if off ≤ j ∧ j < off + vs.length then vs[j - off]? else cs[j]?
  | [], cs, off, _, j => by rw [putA, if_neg (by simp only [List.length_nil]; omega)]
  | v :: vs, cs, off, h, j => by
    simp only [List.length_cons] at h
    rw [putA, putA_get (by simp; omega)]
    by_cases e : j = off
    · subst e
      rw [if_neg (by omega), if_pos ⟨by omega, by simp⟩, Nat.sub_self]
      simp only [List.getElem?_cons_zero]
      exact Array.getElem?_setIfInBounds_self_of_lt (by omega)
    · by_cases q : off + 1 ≤ j ∧ j < off + 1 + vs.length
      · rw [if_pos q, if_pos ⟨by omega, by simp; omega⟩]
        obtain ⟨d, hd⟩ : ∃ d, j - off = d + 1 := ⟨j - off - 1, by omega⟩
        rw [hd, show j - (off + 1) = d from by omega]; simp
      · rw [if_neg q, if_neg (by simp; omega), Array.getElem?_setIfInBounds_ne (Ne.symm e)]
/-- w' is w with block b's cells turned. -/
structure Wrote (w w' : World) (b : Nat) (cs' : Array Value) (T : TypeId) : Prop where
  os : w'.os = w.os
  tape : w'.tape = w.tape
  output : w'.output = w.output
  size : w'.heap.size = w.heap.size
  other : ∀ x, x ≠ b → w'.heap[x]? = w.heap[x]?
  here : w'.heap[b]? = some (.cells cs' T (0, 0))
theorem Wrote.setCell {w : World} {b off : Nat} {cs : Array Value} {T : TypeId} (h : w.heap[b]? = some (.cells cs T (0, 0))) (v : Value) : Wrote w (w.setCell ⟨b, off, none⟩ v) b (cs.setIfInBounds off v) T where
  os := rfl
  tape := rfl
  output := rfl
  size := by simp [World.setCell]
  other x hx := by simp only [World.setCell, Array.getElem?_modify]; rw [if_neg (Ne.symm hx)]
  here := by simp only [World.setCell, Array.getElem?_modify, if_true, h, Option.map_some]; simp
theorem run_storeCells {P : Program} {b : Nat} {T : TypeId} {off : Nat} : ∀ {vs : List Value} {i : Nat} {w : World} {cs : Array Value}, w.heap[b]? = some (.cells cs T (0, 0)) → (∀ v ∈ vs, v.oneCell' = true) → off + i + vs.length ≤ cs.size →
    ∃ w', (storeCells ⟨b, off, none⟩ vs i).run P w = .ok () w' ∧ Wrote w w' b (putA cs (off + i) vs) T
  | [], i, w, cs, h, _, _ => ⟨w, by simp [storeCells], rfl, rfl, rfl, rfl, fun _ _ => rfl, h⟩
  | v :: vs, i, w, cs, h, hv, hl => by
    simp only [List.length_cons] at hl
    have hw := Wrote.setCell (off := off + i) h v
    obtain ⟨w', h1, h2⟩ := run_storeCells (P := P) (off := off) (i := i + 1) (vs := vs) hw.here (fun x hx => hv x (List.mem_cons_of_mem _ hx)) (by simp; omega)
    refine ⟨w', ?_, ⟨h2.os.trans hw.os, h2.tape.trans hw.tape, h2.output.trans hw.output, h2.size.trans hw.size, fun x hx => (h2.other x hx).trans (hw.other x hx), ?_⟩⟩
    · have hc : ∃ u, w.cell? ⟨b, off + i, none⟩ = some u := by rw [cell?_of h]; exact ⟨cs[off + i]'(by omega), by simp⟩
      obtain ⟨u, hu⟩ := hc
      simp only [storeCells, Sem.run_bind]
      rw [run_store P w _ v _ (hv v List.mem_cons_self), Addr.add_none, hu, frozen?_of h]
      simpa using h1
    · have := h2.here; rwa [← Nat.add_assoc] at this
theorem run_loadCells_of {P : Program} {w : World} {b off : Nat} {cs : Array Value} {T : TypeId} {fr : Nat × Nat} (h : w.heap[b]? = some (.cells cs T fr)) {vs : List Value} (hv : ∀ j v, vs[j]? = some v → cs[off + j]? = some v) :
    (loadCells ⟨b, off, none⟩ vs.length).run P w = .ok vs.toArray w :=
  run_loadCells_list w ⟨b, off, none⟩ vs fun j v hj => by rw [Addr.add_none, cell?_of h]; exact hv j v hj
end Go.Proofs.YtaklcemgpinleaaDoor
