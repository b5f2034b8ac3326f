/- The table of types is checked against the program's by a small computation. -/
import Derived.Test.YtaklcemgpinleaaDoorCr19
namespace Go.Proofs.YtaklcemgpinleaaDoor
open Go
set_option linter.unusedSimpArgs false
set_option linter.unusedVariables false
set_option linter.unnecessarySimpa false
set_option linter.unusedSectionVars false

/-- A table of types, as a tree. -/
inductive TT where
  | leaf (k : Nat) (t : TI)
  | node (m : Nat) (l r : TT)
def TT.get : TT → Nat → TI
  | .leaf k t, T => bif Nat.beq T k then t else dfltTI
  | .node m l r, T => bif Nat.blt T m then l.get T else r.get T
def TT.keys : TT → List Nat
  | .leaf k _ => [k]
  | .node _ l r => l.keys ++ r.keys
theorem TT.get_of : ∀ (t : TT) (T : Nat), t.get T = dfltTI ∨ T ∈ t.keys
  | .leaf k t, T => by
    by_cases e : T = k
    · exact .inr (by simp [TT.keys, e])
    · left; simp only [TT.get, natbeq_false e, cond_false]
  | .node m l r, T => by
    simp only [TT.get, TT.keys, List.mem_append]
    cases Nat.blt T m
    · exact (r.get_of T).imp id .inr
    · exact (l.get_of T).imp id .inl
def descB (Γ : Nat → TI) (d : TypeDesc) (ti : TI) : Bool :=
  match ti.k with
  | .scal => match ti.zero, d with
    | .t (.v (.int K _)), .int K' => IntKind.eq K K'
    | .t (.v (.bool _)), .bool => true
    | .t (.v (.string _)), .string => true
    | _, _ => false
  | .slice e => match d with | .slice e' => Nat.beq e' e && Nat.blt 0 (Γ e).size | _ => false
  | .strct fs => match d with | .struct fields => decide (fs = fields.toList.map fun x => (x.type, x.offset)) | _ => false
  | .arr n e => match d with | .array n' e' => Nat.beq n' n && (Nat.beq e' e && Nat.blt 0 (Γ e).size) | _ => false
  | .other => match d with | .struct _ => false | .array _ _ => false | _ => true
def zeroB (i : TypeInfo) (ti : TI) : Bool :=
  match ti.zero with
  | .undef => true
  | z => match i.zero with
    | some v => zeroL z.cells v.cells.toList && (Nat.beq z.cells.length ti.size && (match ti.isAgg, v, z with
      | true, .agg _, .agg _ => true
      | false, .agg _, _ => false
      | false, _, .agg _ => false
      | false, _, _ => true
      | _, _, _ => false))
    | none => false
def intsB (P : Program) : Nat → List Field → Bool
  | _, [] => true
  | j, x :: xs => Nat.beq x.offset j && (x.name != "_" && ((match P.underlying x.type with | some (.int _) => true | _ => false) && ((match P.info? x.type with | some i => Nat.beq i.size 1 | none => false) && intsB P (j + 1) xs)))
def intsOf (P : Program) (T : Nat) (d : TypeDesc) (ti : TI) : Bool :=
  match ti.ints with
  | false => true
  | true => match d with
    | .struct fields => Nat.beq fields.size ti.size && (intsB P 0 fields.toList && (!(P.stoodInHeld T) && !(P.eqGuardType P.depth T)))
    | _ => false
def okT (P : Program) (Γ : Nat → TI) (T : Nat) : Bool :=
  match P.info? T, P.underlying T with
  | some i, some d => Nat.beq i.size (Γ T).size && (Nat.beq i.bytes (Γ T).bytes && (Nat.blt 0 (Γ T).size && (descB Γ d (Γ T) && (zeroB i (Γ T) && intsOf P T d (Γ T)))))
  | _, _ => false
theorem ne_dflt {ti : TI} (h : Nat.blt 0 ti.size = true) : ti ≠ dfltTI := fun e => by rw [e] at h; simp [dfltTI] at h
theorem intsB_at {P : Program} : ∀ {xs : List Field} {j : Nat}, intsB P j xs = true → ∀ {i : Nat} {x : Field}, xs[i]? = some x → x.offset = j + i ∧ x.name ≠ "_" ∧ (∃ K, P.underlying x.type = some (.int K)) ∧ ∃ i, P.info? x.type = some i ∧ i.size = 1
  | [], _, _, i, x, hi => by simp at hi
  | y :: ys, j, hb, i, x, hi => by
    simp only [intsB, Bool.and_eq_true, bne_iff_ne, ne_eq] at hb
    obtain ⟨b1, b2, b3, b4, b5⟩ := hb
    cases i with
    | zero =>
      simp at hi; subst hi
      refine ⟨Nat.eq_of_beq_eq_true b1, b2, ?_, ?_⟩
      · split at b3
        · rename_i K hk; exact ⟨K, hk⟩
        · cases b3
      · split at b4
        · rename_i i hi; exact ⟨i, hi, Nat.eq_of_beq_eq_true b4⟩
        · cases b4
    | succ i =>
      obtain ⟨h1, h2⟩ := intsB_at b5 (i := i) (x := x) (by simpa using hi)
      exact ⟨by rw [h1]; omega, h2⟩
theorem facts_of {P : Program} {Γ : Nat → TI} {T : Nat} (hb : okT P Γ T = true) : Facts P Γ T := by
  unfold okT at hb
  split at hb <;> try (cases hb; done)
  rename_i i d hi hu
  simp only [Bool.and_eq_true, Nat.blt_eq] at hb
  obtain ⟨b1, b2, b3, b4, b5, b6⟩ := hb
  have b1 := Nat.eq_of_beq_eq_true b1
  have b2 := Nat.eq_of_beq_eq_true b2
  refine ⟨⟨i, d, hi, hu, b1, b2, ?_⟩, b3, fun hz => ?_, fun hint => ?_⟩
  · unfold descB at b4
    unfold DescOK
    split at b4
    · rename_i hk
      split at b4
      · rename_i hz; simp only [hk, hz]; rw [intKind_eq b4]
      · rename_i hz; simp only [hk, hz]
      · rename_i hz; simp only [hk, hz]
      · cases b4
    · rename_i e hk
      split at b4 <;> try (cases b4; done)
      simp only [Bool.and_eq_true] at b4
      simp only [hk]
      exact ⟨by rw [Nat.eq_of_beq_eq_true b4.1], ne_dflt b4.2⟩
    · rename_i fs hk
      split at b4 <;> try (cases b4; done)
      rename_i fields
      simp only [hk]
      exact ⟨fields, rfl, of_decide_eq_true b4⟩
    · rename_i n e hk
      split at b4 <;> try (cases b4; done)
      simp only [Bool.and_eq_true] at b4
      simp only [hk]
      exact ⟨by rw [Nat.eq_of_beq_eq_true b4.1, Nat.eq_of_beq_eq_true b4.2.1], ne_dflt b4.2.2⟩
    · rename_i hk
      split at b4 <;> first | (cases b4; done) | skip
      rename_i n1 n2
      simp only [hk]
  · unfold zeroB at b5
    split at b5
    · rename_i q; exact absurd q hz
    · split at b5 <;> try (cases b5; done)
      rename_i v hv
      simp only [Bool.and_eq_true] at b5
      obtain ⟨c1, c2, c3⟩ := b5
      refine ⟨i, v, hi, hv, c1, Nat.eq_of_beq_eq_true c2, ?_⟩
      split at c3
      · rename_i e1 e2; rw [e1, if_pos rfl]; exact ⟨⟨_, rfl⟩, _, e2⟩
      · cases c3
      · cases c3
      · rename_i n1 e1 n2 n3
        rw [e1, if_neg (by simp)]
        exact ⟨fun cs q => n2 cs q, fun zs q => n3 zs q⟩
      · cases c3
  · unfold intsOf at b6
    rw [hint] at b6
    simp only at b6
    split at b6 <;> try (cases b6; done)
    rename_i fields
    simp only [Bool.and_eq_true, Bool.not_eq_true'] at b6
    refine ⟨fields, hu, Nat.eq_of_beq_eq_true b6.1, fun j x hx => ?_, b6.2.2.1, b6.2.2.2⟩
    obtain ⟨h1, h2, ⟨K, h3⟩, h4⟩ := intsB_at b6.2.1 (i := j) (x := x) (by simpa using hx)
    exact ⟨by rw [h1]; simp, h2, K, h3, h4⟩
theorem tyOK_of {P : Program} {t : TT} (h : t.keys.all (okT P t.get) = true) : TyOK P t.get := fun T =>
  (t.get_of T).imp id fun hm => facts_of (List.all_eq_true.1 h T hm)
end Go.Proofs.YtaklcemgpinleaaDoor
