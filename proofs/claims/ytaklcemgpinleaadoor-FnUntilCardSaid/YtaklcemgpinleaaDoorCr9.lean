/- Each operation does to a fitting state what the layer says: stores and addresses. -/
import Derived.Test.YtaklcemgpinleaaDoorCr8
namespace Go.Proofs.YtaklcemgpinleaaDoor
open Go
set_option linter.unusedSimpArgs false
set_option linter.unusedVariables false
set_option linter.unnecessarySimpa false
set_option linter.unusedSectionVars false

section
variable {f : LF} {ws : Ws} {C : Cx} {P : Program} {E : Env} {h : IH} {β : BM} {a : Act} {w : World}
theorem fin_noneS {o : Oper} (hn : o.dst = none) (a : Act) (v : Value) : a.put o.dst v = a := by rw [hn]; rfl
/-- A write leaves the slot that an operation writes to undefined. -/
theorem fin_okS {G : Nat → Option Rows} {o : Oper} {ws0 : Ws} {h : IH} {β : BM} {a : Act} {w : World} (hev : (fin E.N o .undef ws0).ev f ws) (hs : Sim G E (updL f ws0) h β a w) : Sim G E (updL f ws) h β (a.put o.dst undef) w :=
  fin_ok hev hs trivial
theorem liveK {n : Nm} {ws0 : Ws} {x : AV} (h0 : ∀ m z, (Pl.live m, z) ∈ ws0 → f (.live m) = .undef) (hn : f (.live n) = x) (hx : x ≠ .undef) : updL f ws0 (.live n) = x := by
  rw [updL_other (fun y hy e => ?_), hn]
  obtain ⟨p, z⟩ := y
  simp only at e; subst e
  exact hx (hn.symm.trans (h0 n z hy))
theorem ok_store (hT : TyOK P C.Γ) {o : Oper} {n0 : Nm} {T : Nat} {x y : Operand} (hev : (opd C 0 x fun a => opdI C n0 T y fun b ws => astore C E.N o T a b ws).ev f ws) (hop : o.op = .store T x y) : OpOK P C.G E o f ws := by
  obtain ⟨av, hev, h2⟩ := opd_ev hev
  obtain ⟨bv, ws0, hev, _, h3, h4⟩ := opdI_ev hev
  refine OpOK.mkS fun {h β a w} hs => ?_
  obtain ⟨β', t, sy⟩ := h4 hs
  have sx : SimR h β' av (a.eval x) := (h2 hs).mono (IH.le_refl h) t.le
  cases av with
  | ptr n c =>
    simp only [astore, Rd.ev] at hev
    split at hev <;> try exact (fail_ev.1 hev).elim
    rename_i sz hl
    have hb := bif_c hev
    replace hev := bif_t hev
    simp only [Bool.and_eq_true, Nat.blt_eq] at hb
    obtain ⟨b1, b2, b3, b4⟩ := hb
    have b2 := Nat.le_of_ble_eq_true b2
    have b3 := Nat.eq_of_beq_eq_true b3
    obtain ⟨b, sz', q1, q2⟩ := sx
    have hl' : updL f ws0 (.live n) = .lbox sz := liveK (fun m z hm => (h3 m z hm).1) hl (by simp)
    obtain ⟨b', e1, cs, T', r1, r2, r3, r4⟩ := t.sim.boxes n sz hl'
    rw [q1] at e1; simp only [BI.box.injEq] at e1; obtain ⟨rfl, rfl⟩ := e1
    have hcs := boxy_cells (boxy_of_all b4) sy
    have hlen := hcs.length
    obtain ⟨w', k1, k2⟩ := run_storeAt (w := w) hT (T := T) (off := c) r1 (v := a.eval y) b1 (by omega) (allCell_one b4 hcs) (by omega)
    refine ⟨h, β', w', ?_, fin_okS hev ?_⟩
    · simp only [execOp, hop, q2]; exact run_u k1
    · rw [updL_append]
      exact t.sim.wrote_box hl' q1 r1 hcs (by omega) k2
  | eptr n k' i c =>
    simp only [astore] at hev
    split at hev <;> try exact (fail_ev.1 hev).elim
    replace hev := get_ev hev
    split at hev <;> try exact (fail_ev.1 hev).elim
    rename_i hl
    replace hev := get_ev hev
    split at hev <;> try exact (fail_ev.1 hev).elim
    rename_i k'' rows hr
    obtain ⟨ys, zs, hev, hexp⟩ := expCs_ev0 hev
    split at hev <;> try exact (fail_ev.1 hev).elim
    rename_i l ht
    have hb := bif_c hev
    replace hev := bif_t hev
    simp only [Bool.and_eq_true, Nat.blt_eq, Bool.not_eq_true'] at hb
    obtain ⟨b1, b2, b3, b4, b5⟩ := hb
    have b2 := Nat.eq_of_beq_eq_true b2
    have b4 := Nat.le_of_ble_eq_true b4
    have b5 : n ∉ zs := fun q => by rw [Nm.mem_iff.2 q] at b5; cases b5
    have s0 : Sim C.G E f h β' a w := t.sim
    obtain ⟨h1, hle, s1⟩ := s0.freezes hexp.frz
    have hl1 : updL f (frW zs) (.live n) = .lrow false := by rw [frW_live b5, hl]
    have hcs := (boxy_cells b3 sy).mono hle (BM.le_refl β')
    have hrep := frozen_rep s1 (frW_row zs) (fun z hz => frW_mem hz) hexp ht hcs
    have hlen := hrep.length
    obtain ⟨b, sz, len, q1, q2⟩ := sx
    obtain ⟨b', sz', k3, rows', e1, e2, e3⟩ := s1.rows n false hl1
    rw [frW_row, hr] at e2; simp only [AV.rowc.injEq] at e2; obtain ⟨rfl, rfl⟩ := e2
    rw [q1] at e1; simp only [BI.row.injEq] at e1; obtain ⟨rfl, rfl, rfl, rfl⟩ := e1
    obtain ⟨cs, T', p1, p2, p3, p4⟩ := e3
    have main : ∀ (r : List TV), rows[i]? = some r → (fin E.N o .undef (frW zs ++ [(.row n, .rowc k' (rows.set i (splice r c l)))])).ev f ws → ∃ h' β' w', (execOp a.eval o).run P w = .ok .skip w' ∧ Sim C.G E (updL f ws) h' β' (a.put o.dst undef) w' := by
      intro r hri hev
      have hil := (List.getElem?_eq_some_iff.1 hri).1
      have hbound := p4.bound hil (by omega)
      obtain ⟨w', k1, k2⟩ := run_storeAt (w := w) hT (T := T) (off := i * k' + c) p1 (v := a.eval y) b1 (by omega) hrep.one (by omega)
      refine ⟨h1, β', w', ?_, fin_okS hev ?_⟩
      · simp only [execOp, hop, q2]; exact run_u k1
      · rw [updL_append]
        exact s1.wrote_row hl1 q1 p1 putA_size (by simp) (p4.splice hri hrep b4 (by omega)) k2
    rcases bif_ev.1 hev with ⟨hk, hev⟩ | ⟨_, hev⟩
    · obtain ⟨hi, hev⟩ := hev
      have hk := Nat.eq_of_beq_eq_true hk
      have hri : rows[i]? = some rows[i] := by simp [hi]
      refine main rows[i] hri ?_
      rw [splice_all (p4.1 _ (List.getElem_mem hi)) hk b4]; exact hev
    · obtain ⟨r, hri, hev⟩ := hev
      exact main r hri hev
  | _ => exact (fail_ev.1 hev).elim

/-! ## Addresses and parts -/
theorem elSz_ty (hT : TyOK P C.Γ) {T k : Nat} (hk : elSz C T k = true) : ∃ e, P.underlying T = some (.slice e) ∧ Facts P C.Γ e ∧ (C.Γ e).size = k := by
  unfold elSz at hk
  split at hk
  · rename_i e he
    obtain ⟨h1, h2⟩ := hT.slice he
    exact ⟨e, h1, h2, Nat.eq_of_beq_eq_true hk⟩
  · cases hk
theorem isS_ty (hT : TyOK P C.Γ) {T : Nat} (hk : (C.Γ T).isS = true) : P.underlying T = some .string := by
  unfold TI.isS at hk
  split at hk
  · rename_i h1 h2
    obtain ⟨i, d, _, q2, _, _, q5⟩ := (hT.facts (T := T) (fun q => by rw [q] at h1; simp [dfltTI] at h1)).main
    simp only [DescOK, h1, h2] at q5
    rw [q2, q5]
  · cases hk
theorem isSl_ty (hT : TyOK P C.Γ) {T : Nat} (hk : isSl C T = true) : ∃ e, P.underlying T = some (.slice e) := by
  unfold isSl at hk
  split at hk
  · rename_i e he; exact ⟨e, (hT.slice he).1⟩
  · cases hk
theorem ok_nilCheck {o : Oper} {x : Operand} (hev : (opd C 0 x fun a => match a with
    | .ptr _ _ | .eptr _ _ _ _ | .tptr _ _ | .glob _ _ => fin E.N o a []
    | .fn f caps => fin E.N o (.fn f caps) []
    | _ => .fail).ev f ws) (hop : o.op = .nilCheck x) : OpOK P C.G E o f ws := by
  obtain ⟨av, hev, h2⟩ := opd_ev hev
  refine OpOK.mk fun {h β a w} hs => ?_
  have hv := h2 hs
  refine ⟨a.eval x, h, β, w, ?_, ?_⟩
  · simp only [execOp, hop]
    split at hev
    · obtain ⟨_, _, _, e⟩ := hv; simp [e]
    · obtain ⟨_, _, _, _, e⟩ := hv; simp [e]
    · obtain ⟨_, _, _, _, _, e, _⟩ := hv; simp [e]
    · have e : _ = _ := hv; simp [e]
    · obtain ⟨_, e, _⟩ := hv; simp [e]
    · exact (fail_ev.1 hev).elim
  · split at hev <;> first | exact fin_ok hev hs hv | exact (fail_ev.1 hev).elim
theorem ok_makeFunc {o : Oper} {g : FuncId} {fs cs : Array Operand} (hev : (bif Nat.beq fs.size 0 then opds C cs.toList (List.replicate cs.size 0) fun as => bif noFn as then fin E.N o (.fn g as) [] else .fail else .fail).ev f ws) (hop : o.op = .makeFunc (.func g) fs cs) : OpOK P C.G E o f ws := by
  have h0 := Nat.eq_of_beq_eq_true (bif_c hev)
  replace hev := bif_t hev
  obtain ⟨as, hev, h2⟩ := opds_ev hev
  have hn := bif_c hev
  replace hev := bif_t hev
  apply OpOK.mk
  intro h β a w hs
  have hv := h2 hs
  have hfs : fs = #[] := by simpa using h0
  refine ⟨.func (.func g) #[] (cs.map a.eval), h, β, w, ?_, fin_ok hev hs ?_⟩
  · simp [execOp, hop, Instr.makeFunc, hfs]
  · refine ⟨_, rfl, ?_⟩
    rw [Array.toList_map]
    clear hev h2
    generalize cs.toList.map a.eval = vs at hv
    induction as generalizing vs with
    | nil => cases vs with
      | nil => trivial
      | cons _ _ => exact hv.elim
    | cons x xs ih => cases vs with
      | nil => exact hv.elim
      | cons v vs =>
        refine ⟨?_, ih (by cases x <;> simp [noFn] at hn <;> exact hn) vs hv.2⟩
        have := hv.1
        cases x <;> first | exact this | simp [noFn] at hn
theorem offOf_ev (hT : TyOK P C.Γ) {T i : Nat} {k : Nat → Nat → Rd} (hev : (offOf C T i k).ev f ws) : ∃ (fields : Array Field) (x : Field), P.underlying T = some (.struct fields) ∧ fields[i]? = some x ∧ Facts P C.Γ x.type ∧ (k x.type x.offset).ev f ws := by
  unfold offOf at hev
  split at hev <;> try exact (fail_ev.1 hev).elim
  rename_i fs hk
  obtain ⟨fields, h1, h2⟩ := hT.strct hk
  split at hev <;> try exact (fail_ev.1 hev).elim
  rename_i ft off hf
  have hb := bif_c hev
  replace hev := bif_t hev
  subst h2
  rw [List.getElem?_map] at hf
  cases hx : fields.toList[i]? with
  | none => simp [hx] at hf
  | some x =>
    simp [hx] at hf
    obtain ⟨rfl, rfl⟩ := hf
    exact ⟨fields, x, h1, by simpa using hx, hT.of_pos (by simpa [Nat.blt_eq] using hb), hev⟩
theorem ok_fieldAddr (hT : TyOK P C.Γ) {o : Oper} {T i : Nat} {x : Operand} (hev : (opd C 0 x fun a => offOf C T i fun _ off => match a with
    | .ptr n c => fin E.N o (.ptr n (c + off)) []
    | .eptr n k i c => fin E.N o (.eptr n k i (c + off)) []
    | .tptr r c => fin E.N o (.tptr r (c + off)) []
    | _ => .fail).ev f ws) (hop : o.op = .fieldAddr T x i) : OpOK P C.G E o f ws := by
  obtain ⟨av, hev, h2⟩ := opd_ev hev
  obtain ⟨fields, y, u1, u2, u3, hev⟩ := offOf_ev hT hev
  refine OpOK.mk fun {h β a w} hs => ?_
  have hv := h2 hs
  have run : ∀ {b off}, a.eval x = .pointer (some ⟨b, off, none⟩) → (execOp a.eval o).run P w = .ok (.value (.pointer (some ⟨b, off + y.offset, none⟩))) w := by
    intro b off e
    simp only [execOp, hop, e]
    refine run_v ?_
    have hpos := u3.pos
    have hne : ¬ ((C.Γ y.type).size = 0) := by omega
    simp only [Instr.fieldAt, Sem.run_bind, run_underlying u1, Result.andThen_ok, u2, Instr.sureAddr, Sem.run_pure, fieldPlace, u3.run_sizeOf, hne, if_false, Addr.add_none]
  split at hev
  · obtain ⟨b, sz, q1, q2⟩ := hv
    exact ⟨_, h, β, w, run q2, fin_ok hev hs ⟨b, sz, q1, rfl⟩⟩
  · obtain ⟨b, sz, len, q1, q2⟩ := hv
    exact ⟨_, h, β, w, run q2, fin_ok hev hs ⟨b, sz, len, q1, by simp [Nat.add_assoc]⟩⟩
  · obtain ⟨b, off, cs, T', fr, q1, q2, q3⟩ := hv
    exact ⟨_, h, β, w, run q1, fin_ok hev hs ⟨b, off, cs, T', fr, by simp [Nat.add_assoc], q2, q3⟩⟩
  · exact (fail_ev.1 hev).elim
theorem simL_sub {h : IH} {β : BM} : ∀ {xs : List AV} {vs : List Value}, SimL h β xs vs → ∀ (i n : Nat), SimL h β ((xs.drop i).take n) ((vs.drop i).take n)
  | [], [], _, i, n => by simp [SimL]
  | x :: xs, v :: vs, hs, i, n => by
    cases i with
    | zero =>
      cases n with
      | zero => simp [SimL]
      | succ n => exact ⟨hs.1, by simpa using simL_sub hs.2 0 n⟩
    | succ i => simpa using simL_sub hs.2 i n
  | [], _ :: _, hs, _, _ => hs.elim
  | _ :: _, [], hs, _, _ => hs.elim
theorem ok_field (hT : TyOK P C.Γ) {o : Oper} {T i : Nat} {x : Operand} (hev : (opd C T x fun a => offOf C T i fun ft off => match a with
    | .agg cs => bif (C.Γ ft).isAgg then fin E.N o (.agg ((cs.drop off).take (C.Γ ft).size)) [] else
        match cs[off]? with | some y => bif isDef y then fin E.N o y [] else .fail | none => .fail
    | _ => .fail).ev f ws) (hop : o.op = .field T x i) : OpOK P C.G E o f ws := by
  obtain ⟨av, hev, h2⟩ := opd_ev hev
  obtain ⟨fields, y, u1, u2, u3, hev⟩ := offOf_ev hT hev
  refine OpOK.mk fun {h β a w} hs => ?_
  have hv := h2 hs
  split at hev <;> try exact (fail_ev.1 hev).elim
  rename_i cs
  obtain ⟨vs, e, hv⟩ := hv
  rcases bif_ev.1 hev with ⟨ha, hev⟩ | ⟨ha, hev⟩
  · refine ⟨.agg (vs.extract y.offset (y.offset + (C.Γ y.type).size)), h, β, w, ?_, fin_ok hev hs ⟨_, rfl, ?_⟩⟩
    · simp only [execOp, hop, e]
      refine run_v ?_
      simp [Instr.field, run_underlying u1, u2, asAgg, part, u3.run_isAgg, u3.run_sizeOf, ha]
    · have := simL_sub hv y.offset (C.Γ y.type).size
      simpa [Array.toList_extract, List.extract_eq_take_drop] using this
  · split at hev <;> try exact (fail_ev.1 hev).elim
    rename_i z hz
    obtain ⟨v, hv1, hv2⟩ := hv.get hz
    have hv1 : vs[y.offset]? = some v := by simpa using hv1
    refine ⟨v, h, β, w, ?_, fin_ok (bif_t hev) hs (simR_of_C hv2)⟩
    simp only [execOp, hop, e]
    refine run_v ?_
    simp [Instr.field, run_underlying u1, u2, asAgg, part, u3.run_isAgg, ha, hv1]
end
end Go.Proofs.YtaklcemgpinleaaDoor
