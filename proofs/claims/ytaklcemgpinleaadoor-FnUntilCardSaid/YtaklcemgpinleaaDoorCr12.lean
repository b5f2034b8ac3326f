/- Each operation does to a fitting state what the layer says: structs, rows that are laid out. -/
import Derived.Test.YtaklcemgpinleaaDoorCr11
import Derived.Laws.Tables
namespace Go.Proofs.YtaklcemgpinleaaDoor
open Go
set_option linter.unusedSimpArgs false
set_option linter.unusedVariables false
set_option linter.unnecessarySimpa false
set_option linter.unusedSectionVars false

section
variable {f : LF} {ws : Ws} {C : Cx} {P : Program} {E : Env} {h : IH} {β : BM} {a : Act} {w : World}
def placesOf (Γ : Nat → TI) (fs : List Field) : List (Nat × Nat) := fs.map fun x => (x.offset, (Γ x.type).size)
theorem partsB_ok {fs : List Field} (hs : Sim C.G E f h β a w) : ∀ {ps : List (Nat × Operand)} {xs : List AV} {k : List AV → Rd}, (partsB C (fs.map fun x => (x.type, x.offset)) ps xs k).ev f ws → ∀ {cs : Array Value}, MixL h β w xs cs.toList →
    ∃ xs' cs', (k xs').ev f ws ∧ Instr.fill ((placesOf C.Γ fs).toArray[·]?) cs (ps.map fun p => (p.1, a.eval p.2)) = some cs' ∧ MixL h β w xs' cs'.toList
  | [], xs, k, hev, cs, hm => ⟨xs, cs, hev, rfl, hm⟩
  | (i, x) :: ps, xs, k, hev, cs, hm => by
    simp only [partsB] at hev
    split at hev <;> try exact (fail_ev.1 hev).elim
    rename_i ft off hf
    rw [List.getElem?_map] at hf
    cases hx : fs[i]? with
    | none => simp [hx] at hf
    | some y =>
      simp [hx] at hf
      obtain ⟨rfl, rfl⟩ := hf
      obtain ⟨av, hev1, h2⟩ := opd_ev hev
      have hb := bif_c hev1
      have hev2 := bif_t hev1
      clear hev hev1
      simp only [Bool.and_eq_true] at hb
      have b1 := Nat.eq_of_beq_eq_true hb.1
      have b3 := Nat.le_of_ble_eq_true hb.2.2
      have hcs := boxy_cells hb.2.1 (h2 hs)
      have hlen := hcs.length
      have hml := hm.length
      simp only [Array.length_toList] at hlen hml
      obtain ⟨xs', cs', q1, q2, q3⟩ := partsB_ok hs hev2 (putCells_mix hcs (off := y.offset) hm)
      refine ⟨xs', cs', q1, ?_, q3⟩
      rw [List.map_cons, fill_step (v := a.eval x) (off := y.offset) (size := (C.Γ y.type).size) (by simp [placesOf, hx]) (by omega) (by omega)]
      exact q2
theorem fsOK_mem : ∀ {fs : List (Nat × Nat)}, fsOK C fs = true → ∀ x ∈ fs, 0 < (C.Γ x.1).size
  | [], _, x, hx => by simp at hx
  | (t, n) :: fs, hf, x, hx => by
    simp only [fsOK, Bool.and_eq_true, Nat.blt_eq] at hf
    rcases List.mem_cons.1 hx with e | e
    · subst e; exact hf.1
    · exact fsOK_mem hf.2 x e
theorem mapM_places (hT : TyOK P C.Γ) : ∀ {fs : List Field}, (∀ x ∈ fs, 0 < (C.Γ x.type).size) → fs.mapM (fun f => (P.info? f.type).map fun i => (f.offset, i.size)) = some (placesOf C.Γ fs)
  | [], _ => rfl
  | x :: fs, hx => by
    obtain ⟨i, d, h1, _, h3, _⟩ := (hT.of_pos (hx x (by simp))).main
    have ih := mapM_places hT (fs := fs) (fun y hy => hx y (List.mem_cons_of_mem _ hy))
    simp only [List.mapM_cons, h1, Option.map_some, Option.bind_eq_bind, Option.bind_some, ih, placesOf, List.map_cons, h3, Option.pure_def]
theorem ok_build (hT : TyOK P C.Γ) {o : Oper} {me : Nm} {T : Nat} {ps : Array (Nat × Operand)} (hev : (match (C.Γ T).k with
    | .strct fs => bif isDef (C.Γ T).zero && fsOK C fs then partsB C fs ps.toList (C.Γ T).zero.cells fun cs => fresh (fin E.N o (.agg (impCs me 0 cs).1) (impCs me 0 cs).2) (impCs me 0 cs).2 else .fail
    | _ => .fail).ev f ws) (hop : o.op = .build T ps) : OpOK P C.G E o f ws := by
  split at hev <;> try exact (fail_ev.1 hev).elim
  rename_i fs hk
  have hb := bif_c hev
  have hev1 := bif_t hev
  clear hev
  simp only [Bool.and_eq_true] at hb
  obtain ⟨fields, hu, rfl⟩ := hT.strct hk
  obtain ⟨i, z, z1, z2, z3, z4, z5, z6, z7⟩ := zero_of (hT.facts (ne_dflt_of_zero hb.1)) hb.1
  have hpl := mapM_places hT (fs := fields.toList) (fun x hx => fsOK_mem hb.2 (x.type, x.offset) (List.mem_map.2 ⟨x, hx, rfl⟩))
  apply OpOK.mk
  intro h β a w hs
  obtain ⟨xs', cs', q1, q2, q3⟩ := partsB_ok hs hev1 (MixL.of_rel (zeroL_rel z3 h w))
  obtain ⟨q1, hfr⟩ := fresh_ev q1
  obtain ⟨β', t, sv⟩ := impCs_mix (n := me) (c := 0) hs q3 hfr
  refine ⟨.agg cs', h, β', w, ?_, fin_ok q1 t.sim ⟨cs', rfl, sv⟩⟩
  simp only [execOp, hop]
  refine run_v ?_
  refine run_build w T _ cs' ?_
  simp only [Program.built, z1, hu, z2, hpl, Array.toList_map]
  exact q2

/-! ## Rows -/
theorem zrow_rep (w : World) {T : Nat} {z : Value} {zr : List TV} (hz : zeroL (C.Γ T).zero.cells z.cells.toList = true) (hr : zrow C T = some zr) : RepL h zr z.cells.toList :=
  trees_rel (zeroL_rel hz h w) hr
theorem zrow_def {T : Nat} {zr : List TV} (hr : zrow C T = some zr) : isDef (C.Γ T).zero = true := by
  cases hz : (C.Γ T).zero <;> simp [zrow, hz, AV.cells, AV.trees, AV.tree] at hr ⊢ <;> rfl
theorem mod_row {i j k : Nat} (hj : j < k) : (i * k + j) % k = j := by rw [Nat.add_comm, Nat.add_mul_mod_self_right, Nat.mod_eq_of_lt hj]
theorem idx_lt {i j k n : Nat} (hi : i < n) (hj : j < k) : i * k + j < n * k := by
  have := Nat.mul_le_mul_right k (show i + 1 ≤ n from hi)
  rw [Nat.add_mul] at this; omega
/-- Rows of zeros. -/
theorem zeros_rows {cs : Array Value} {zs : Array Value} {k n : Nat} {zr : List TV} (hr : RepL h zr zs.toList) (hk : zs.size = k) (hc : ∀ j, j < n * k → cs[j]? = zs[j % k]?) : RowsAt h cs 0 k (List.replicate n zr) := by
  have hlen := hr.length
  simp only [Array.length_toList] at hlen
  refine RowsAt.of_cells (fun r hm => by rw [(List.mem_replicate.1 hm).2]; omega) (fun i r hi => ?_)
  have hlt := (List.getElem?_eq_some_iff.1 hi).1
  simp only [List.length_replicate] at hlt
  rw [List.getElem?_replicate_of_lt hlt] at hi
  simp only [Option.some.injEq] at hi; subst hi
  intro j x hj
  have hjl := (List.getElem?_eq_some_iff.1 hj).1
  obtain ⟨v, v1, v2⟩ := hr.get hj
  refine ⟨v, ?_, v2⟩
  rw [Nat.zero_add, hc _ (idx_lt hlt (by omega)), mod_row (by omega)]
  simpa using v1
theorem RowsAt.put {cs : Array Value} {k : Nat} {rows : Rows} (hr : RowsAt h cs 0 k rows) {i : Nat} {l : List TV} {vs : List Value} (hi : i < rows.length) (hl : RepL h l vs) (hk : l.length = k) (hroom : i * k + vs.length ≤ cs.size) :
    RowsAt h (putA cs (i * k) vs) 0 k (rows.set i l) := by
  have hri : rows[i]? = some rows[i] := by simp [hi]
  have := hr.splice (c := 0) hri hl (by omega) (by simpa using hroom)
  rwa [splice_all (hr.1 _ (List.getElem_mem hi)) hk (by omega)] at this
def PartsT (C : Cx) (e len : Nat) (f : LF) (ev : Operand → AV → Prop) : List (Nat × Operand) → List (Nat × List TV) → List Nm → Prop
  | [], q, zs => q = [] ∧ zs = []
  | (i, x) :: ps, q, zs => ∃ av ys z1 l q' z2, ev x av ∧ ExpL f av.cells ys [] z1 ∧ AV.trees ys = some l ∧ l.length = (C.Γ e).size ∧ boxy av = true ∧ i < len ∧ PartsT C e len f ev ps q' z2 ∧ q = (i, l) :: q' ∧ zs = z1 ++ z2
theorem partsT_ev {e len : Nat} : ∀ {ps : List (Nat × Operand)} {k : List (Nat × List TV) → List Nm → Rd}, (partsT C e len ps k).ev f ws →
    ∃ q zs, (k q zs).ev f ws ∧ PartsT C e len f (fun x av => ∀ {G E h β a w}, Sim G E f h β a w → SimR h β av (a.eval x)) ps q zs
  | [], k, hev => ⟨_, _, hev, rfl, rfl⟩
  | (i, x) :: ps, k, hev => by
    simp only [partsT] at hev
    obtain ⟨av, hev1, h2⟩ := opd_ev hev
    obtain ⟨ys, z1, hev2, h3⟩ := expCs_ev0 hev1
    clear hev hev1
    split at hev2 <;> try exact (fail_ev.1 hev2).elim
    rename_i l hl
    have hb := bif_c hev2
    have hev3 := bif_t hev2
    simp only [Bool.and_eq_true, Nat.blt_eq] at hb
    obtain ⟨q, zs, hev4, h4⟩ := partsT_ev hev3
    exact ⟨_, _, hev4, av, ys, z1, l, q, zs, h2, h3, hl, Nat.eq_of_beq_eq_true hb.1, hb.2.1, hb.2.2, h4, rfl, rfl⟩
theorem PartsT.frz {ev : Operand → AV → Prop} {e len : Nat} : ∀ {ps : List (Nat × Operand)} {q : List (Nat × List TV)} {zs : List Nm}, PartsT C e len f ev ps q zs → ∀ z ∈ zs, ∃ fr, f (.live z) = .lrow fr
  | [], _, _, hp => by obtain ⟨_, rfl⟩ := hp; simp
  | (i, x) :: ps, q, zs, hp => by
    obtain ⟨av, ys, z1, l, q', z2, _, h2, _, _, _, _, h3, _, rfl⟩ := hp
    intro z hz
    rcases List.mem_append.1 hz with r | r
    · exact h2.frz z r
    · exact PartsT.frz h3 z r
theorem partsT_fill {f1 : LF} {h1 : IH} {ev : Operand → AV → Prop} (hs : Sim C.G E f1 h1 β a w) (hrow : ∀ n, f1 (.row n) = f (.row n)) (hval : ∀ x av, ev x av → SimR h1 β av (a.eval x)) {e len : Nat} : ∀ {ps : List (Nat × Operand)} {q : List (Nat × List TV)} {zs : List Nm}, PartsT C e len f ev ps q zs → (∀ z ∈ zs, f1 (.live z) = .lrow true) →
    ∀ {cs : Array Value} {rows : Rows}, cs.size = len * (C.Γ e).size → rows.length = len → RowsAt h1 cs 0 (C.Γ e).size rows →
    ∃ cs', Instr.fill (fun i => some (i * (C.Γ e).size, (C.Γ e).size)) cs (ps.map fun p => (p.1, a.eval p.2)) = some cs' ∧ cs'.size = len * (C.Γ e).size ∧ (fillRows rows q).length = len ∧ RowsAt h1 cs' 0 (C.Γ e).size (fillRows rows q)
  | [], q, zs, hp, _, cs, rows, h1, h2, h3 => by
    obtain ⟨rfl, _⟩ := hp
    exact ⟨cs, rfl, h1, h2, h3⟩
  | (i, x) :: ps, q, zs, hp, hz, cs, rows, g1, g2, g3 => by
    obtain ⟨av, ys, z1, l, q', z2, p1, p2, p3, p4, p5, p6, p7, rfl, rfl⟩ := hp
    have hcs := boxy_cells p5 (hval x av p1)
    have hrep := frozen_rep hs hrow (fun z hm => hz z (by simp [hm])) p2 p3 hcs
    have hlen := hrep.length
    simp only [Array.length_toList] at hlen
    have hroom : i * (C.Γ e).size + (C.Γ e).size ≤ len * (C.Γ e).size := by
      have := Nat.mul_le_mul_right (C.Γ e).size (show i + 1 ≤ len from p6)
      rwa [Nat.add_mul, Nat.one_mul] at this
    rw [List.map_cons, fill_step (v := a.eval x) (off := i * (C.Γ e).size) (size := (C.Γ e).size) rfl (by omega) (by rw [g1]; omega)]
    have g3' := g3.put (i := i) (by omega) hrep p4 (by simp only [Array.length_toList]; rw [g1]; omega)
    exact partsT_fill hs hrow hval p7 (fun z hm => hz z (by simp [hm])) (by rw [putA_size, g1]) (by simp [g2]) g3'
theorem Sim.newRow {G : Nat → Option Rows} (hs : Sim G E f h β a w) {me : Nm} (hme : f (.live me) = .undef) {cs : Array Value} {T : TypeId} {k : Nat} {rows : Rows} (hr : RowsAt h cs 0 k rows) {cap : Nat} (h1 : rows.length ≤ cap) (h2 : cap * k ≤ cs.size) :
    ∃ β', Sim G E (updL f (newRowW me k rows)) h β' a (w.alloc (.cells cs T)) ∧ BM.le β β' ∧ SimC h β' (.own me k) (.slice (some ⟨w.heap.size, 0, none⟩) rows.length cap) := by
  have hl := hs.new_loose
  have s1 := (hs.alloc (.cells cs T)).adoptRow (n := me) (b := w.heap.size) (sz := cs.size) (cs := cs) (T := T) (.inl hme) (alloc_here w _) rfl hl.1 hl.2.1 hl.2.2 hr
  exact ⟨_, s1, BM.le_set (hs.free me hme), some w.heap.size, cs.size, rows.length, cap, by simp [BM.set], rfl, h1, h2, by simp⟩
theorem frz_undef {zs : List Nm} (hz : ∀ z ∈ zs, ∃ fr, f (.live z) = .lrow fr) {n : Nm} (hn : f (.live n) = .undef) : updL f (frW zs) (.live n) = .undef := by
  rw [frW_live (fun q => ?_), hn]
  obtain ⟨fr, e⟩ := hz n q
  rw [hn] at e; cases e
theorem ok_buildSlice (hT : TyOK P C.Γ) {o : Oper} {me : Nm} {T len : Nat} {ps : Array (Nat × Operand)} (hev : (match (C.Γ T).k with
    | .slice e => match zrow C e with
      | some z => bif Nat.ble (len * (C.Γ e).size) 16777216 then partsT C e len ps.toList fun q zs => forceR (fillRows (List.replicate len z) q) fun rows => fresh (fin E.N o (.own me (C.Γ e).size) (frW zs ++ newRowW me (C.Γ e).size rows)) (newRowW me 0 [])
        else .fail
      | none => .fail
    | _ => .fail).ev f ws) (hop : o.op = .buildSlice T len ps) : OpOK P C.G E o f ws := by
  split at hev <;> try exact (fail_ev.1 hev).elim
  rename_i e hk
  split at hev <;> try exact (fail_ev.1 hev).elim
  rename_i zr hz
  have hb := Nat.le_of_ble_eq_true (bif_c hev)
  have hev1 := bif_t hev
  clear hev
  obtain ⟨hu, hF⟩ := hT.slice hk
  obtain ⟨q, zs, hev2, hp⟩ := partsT_ev hev1
  rw [forceR_eq] at hev2
  obtain ⟨hev3, hfr⟩ := fresh_ev hev2
  have hme := hfr me (.lrow false) (by simp [newRowW])
  obtain ⟨i, z, z1, z2, z3, z4, z5, z6, z7⟩ := zero_of hF (zrow_def hz)
  apply OpOK.mk
  intro h β a w hs
  obtain ⟨h1, hle, s1⟩ := hs.freezes hp.frz
  have hpos := hF.pos
  have hcells : ∀ (zc : Array Value), (len * (C.Γ e).size ≠ 0 → zc = z.cells) → ∀ j, j < len * (C.Γ e).size → ((Array.range (len * (C.Γ e).size)).map (zc[· % zc.size]!))[j]? = z.cells[j % (C.Γ e).size]? := by
    intro zc hzc j hj
    rw [hzc (by omega)]
    have hlt : j % (C.Γ e).size < z.cells.size := by rw [z7]; exact Nat.mod_lt _ hpos
    simp [hj, z7]
    rw [Array.getElem?_eq_getElem hlt, getElem!_pos z.cells _ hlt]
  obtain ⟨zc, hzc, hz0⟩ : ∃ zc : Array Value, (len * (C.Γ e).size ≠ 0 → zc = z.cells) ∧ (len * (C.Γ e).size = 0 → zc = #[]) := by
    by_cases q : len * (C.Γ e).size = 0
    · exact ⟨#[], fun r => absurd q r, fun _ => rfl⟩
    · exact ⟨z.cells, fun _ => rfl, fun r => absurd r q⟩
  have hrows := zeros_rows (h := h1) (n := len) (zrow_rep w z3 hz) z7 (hcells zc hzc)
  obtain ⟨cs', g1, g2, g3, g4⟩ := partsT_fill s1 (frW_row zs) (fun x av hx => (hx hs).mono hle (BM.le_refl β)) hp (fun z hm => frW_mem hm) (by simp) (by simp) hrows
  obtain ⟨β', s2, _, sv⟩ := s1.newRow (frz_undef hp.frz hme) (T := e) g4 (cap := len) (by omega) (by omega)
  rw [g3] at sv
  refine ⟨_, h1, β', _, ?_, fin_ok hev3 (by rw [updL_append]; exact s2) sv⟩
  simp only [execOp, hop]
  refine run_v ?_
  have hn : ¬ (16777216 < len * (C.Γ e).size) := by omega
  simp only [Instr.buildSlice, Sem.run_bind, run_underlying hu, Result.andThen_ok, hF.run_sizeOf, Sem.run_ite, Sem.run_pure, gt_iff_lt]
  rw [if_neg (by simpa using hn)]
  by_cases q : len * (C.Γ e).size = 0
  · rw [if_pos q]
    have := hz0 q; subst this
    simp only [Array.toList_map, g1]
    simp [newRow]
  · rw [if_neg q]
    have := hzc q; subst this
    simp only [Array.toList_map, zeroValue, typeInfo, Sem.run_bind, run_program, Result.andThen_ok, z1, Sem.run_pure, z2, g1]
    simp [newRow]
end
end Go.Proofs.YtaklcemgpinleaaDoor
