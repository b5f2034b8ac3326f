/- Each operation does to a fitting state what the layer says: slicing, indexing, lengths, conversions. -/
import Derived.Test.YtaklcemgpinleaaDoorCr9
import Derived.Laws.BytesArg
namespace Go.Proofs.YtaklcemgpinleaaDoor
open Go
set_option linter.unusedSimpArgs false
set_option linter.unusedVariables false
set_option linter.unnecessarySimpa false
set_option linter.unusedSectionVars false

section
variable {f : LF} {ws : Ws} {C : Cx} {P : Program} {E : Env} {h : IH} {β : BM} {a : Act} {w : World}
theorem RowsAt.part {h : IH} {cs : Array Value} {off k : Nat} {rows : Rows} (hr : RowsAt h cs off k rows) (i m : Nat) : RowsAt h cs (off + i * k) k ((rows.drop i).take m) := by
  refine RowsAt.of_cells (fun r hm => hr.1 r (List.mem_of_mem_drop (List.mem_of_mem_take hm))) (fun j r hj => ?_)
  have hj' : rows[i + j]? = some r := by
    rw [List.getElem?_take] at hj
    split at hj
    · rwa [List.getElem?_drop] at hj
    · cases hj
  have := hr.cells hj'
  rwa [Nat.add_mul, ← Nat.add_assoc] at this
abbrev mkI (n : Int) : Value := .int .i64 n
theorem run_bounds (sl : Bool) (len cap : Nat) (lo hi : Option Int) (h0 : 0 ≤ lo.getD 0) (h1 : lo.getD 0 ≤ hi.getD len) (h2 : hi.getD len ≤ cap) :
    (Instr.sliceBounds sl len cap (lo.map mkI) (hi.map mkI) none).run P w = .ok ((lo.getD 0).toNat, (hi.getD len).toNat, cap) w := by
  cases lo <;> cases hi <;> simp only [Option.getD_none, Option.getD_some] at h0 h1 h2
  · simp [Instr.sliceBounds]
  · rename_i x
    have : 0 ≤ x ∧ x ≤ (cap : Int) := ⟨h1, h2⟩
    simp [Instr.sliceBounds, Instr.sliceBound, asIntOf, this]
  · rename_i x
    have : 0 ≤ x ∧ x ≤ (len : Int) := ⟨h0, h1⟩
    simp [Instr.sliceBounds, Instr.sliceBound, asIntOf, this]
  · rename_i x y
    have q1 : 0 ≤ x ∧ x ≤ y := ⟨h0, h1⟩
    have q2 : 0 ≤ y ∧ y ≤ (cap : Int) := ⟨by omega, h2⟩
    have q3 : x ≤ max y 0 := by omega
    simp [Instr.sliceBounds, Instr.sliceBound, asIntOf, q1, q2, q3]
theorem run_sliceAt {T e k : Nat} (hu : P.underlying T = some (.slice e)) (hF : Facts P C.Γ e) (hk : (C.Γ e).size = k) (base : Option Addr) (len cap : Nat) (lo hi : Option Int) (h0 : 0 ≤ lo.getD 0) (h1 : lo.getD 0 ≤ hi.getD len) (h2 : hi.getD len ≤ cap) :
    (Instr.sliceAt T (.slice base len cap) (lo.map mkI) (hi.map mkI) none).run P w = .ok (.slice (if cap = (lo.getD 0).toNat then base else base.map (·.add ((lo.getD 0).toNat * k))) ((hi.getD len).toNat - (lo.getD 0).toNat) (cap - (lo.getD 0).toNat)) w := by
  simp [Instr.sliceAt, Instr.slice, run_underlying hu, run_bounds true len cap lo hi h0 h1 h2, hF.run_sizeOf, hk]
theorem take_drop_rows (rows : Rows) (l hh : Nat) : (rows.take hh).drop l = (rows.drop l).take (hh - l) := by rw [List.drop_take]
theorem asliceA_ok (hT : TyOK P C.Γ) {T : Nat} {x : AV} {lo hi : Option Int} {k : AV → Rd} (hev : (asliceA C T x lo hi k).ev f ws) (hs : Sim C.G E f h β a w) {v : Value} (hv : SimR h β x v) :
    ∃ y v', (k y).ev f ws ∧ (Instr.sliceAt T v (lo.map mkI) (hi.map mkI) none).run P w = .ok v' w ∧ SimR h β y v' := by
  unfold asliceA at hev
  split at hev
  · rename_i s
    have hS := isS_ty hT (bif_c hev)
    replace hev := bif_t hev
    obtain ⟨⟨q0, q1, q2⟩, hev⟩ := hev
    have hv := (simV hv).1
    refine ⟨_, _, hev, ?_, Rep.v rfl⟩
    subst hv
    simp [Instr.sliceAt, Instr.slice, run_underlying hS, run_bounds false s.size s.size lo hi q0 q1 q2]
  · rename_i e rows
    obtain ⟨e', hu, hF, hk⟩ := elSz_ty hT (bif_c hev)
    replace hev := bif_t hev
    have key : ∀ (rows' : Rows), 0 ≤ lo.getD 0 → lo.getD 0 ≤ hi.getD rows.length → hi.getD rows.length ≤ rows.length → rows' = (rows.take (hi.getD rows.length).toNat).drop (lo.getD 0).toNat →
        (k (.t (.sl e rows'))).ev f ws → ∃ y v', (k y).ev f ws ∧ (Instr.sliceAt T v (lo.map mkI) (hi.map mkI) none).run P w = .ok v' w ∧ SimR h β y v' := by
      intro rows' q0 q1 q2 q3 hkev
      clear hev
      have hv : Rep h (.sl e rows) v := hv
      rcases hv.sl_inv with ⟨rfl, rfl⟩ | ⟨b, off, cap, cs, T', fr, rfl, r1, r2, r3⟩
      · simp only [List.length_nil] at q0 q1 q2 q3
        refine ⟨_, _, hkev, run_sliceAt (P := P) (w := w) hu hF hk none 0 0 lo hi q0 q1 q2, ?_⟩
        have l0 : (lo.getD 0).toNat = 0 := by generalize hi.getD ((0 : Nat) : Int) = z at *; omega
        have h0 : (hi.getD ((0 : Nat) : Int)).toNat = 0 := by generalize hi.getD ((0 : Nat) : Int) = z at *; omega
        rw [q3, l0, h0]
        simp
        exact Rep.nil
      · refine ⟨_, _, hkev, run_sliceAt (P := P) (w := w) hu hF hk _ _ _ lo hi q0 q1 (by omega), ?_⟩
        have hlen : rows'.length = (hi.getD rows.length).toNat - (lo.getD 0).toNat := by rw [q3]; simp; omega
        rw [← hlen]
        split
        · rename_i hc
          refine Rep.sl_mk r1 (by omega) ?_ rfl
          have : rows' = [] := List.eq_nil_of_length_eq_zero (by omega)
          rw [this]; exact RowsAt.nil
        · simp only [Option.map_some, Addr.add_none]
          refine Rep.sl_mk r1 (by omega) ?_ rfl
          rw [q3, take_drop_rows]
          exact r3.part _ _
    cases lo <;> cases hi <;> simp only at hev
    · exact key rows (by simp) (by simp) (by simp) (by simp) hev
    · obtain ⟨⟨q0, q1⟩, hev⟩ := hev
      exact key _ (by simp) (by simpa using q0) (by simpa using q1) (by simp) hev
    · obtain ⟨⟨q0, q1⟩, hev⟩ := hev
      exact key _ (by simpa using q0) (by simpa using q1) (by simp) (by simp) hev
    · obtain ⟨⟨q0, q1, q2⟩, hev⟩ := hev
      exact key _ (by simpa using q0) (by simpa using q1) (by simpa using q2) (by simp) hev
  · rename_i n e
    obtain ⟨e', hu, hF, hk⟩ := elSz_ty hT (bif_c hev)
    replace hev := get_ev (bif_t hev)
    split at hev <;> try exact (fail_ev.1 hev).elim
    rename_i fr hl
    replace hev := get_ev hev
    split at hev <;> try exact (fail_ev.1 hev).elim
    rename_i k' rows hr
    obtain ⟨⟨q0, q1, q2⟩, hev⟩ := hev
    obtain ⟨b, sz, len, cap, p1, rfl, p3, p4, p5⟩ := hv
    obtain ⟨b', sz', k3, rows', e1, e2, _⟩ := hs.rows n fr hl
    rw [hr] at e2; simp only [AV.rowc.injEq] at e2; obtain ⟨rfl, rfl⟩ := e2
    rw [p1] at e1; simp only [BI.row.injEq] at e1; obtain ⟨rfl, rfl, rfl, rfl⟩ := e1
    refine ⟨_, _, hev, run_sliceAt (P := P) (w := w) hu hF hk _ _ _ lo hi q0 q1 (by omega), ?_⟩
    generalize hl' : (lo.getD 0).toNat = l at *
    generalize hh' : (hi.getD rows.length).toNat = hh at *
    have g1 : l ≤ hh := by omega
    have g2 : hh ≤ rows.length := by omega
    by_cases hc : cap = l
    · refine ⟨b, sz, rows.length, cap - l, 0, p1, by simp [hc], by omega, by omega, .inl (by omega), fun _ => rfl, by simp [hc], fun hb => ?_⟩
      have := p5 hb; exact ⟨by omega, rfl⟩
    · refine ⟨b, sz, rows.length, cap - l, l * e, p1, ?_, by omega, by omega, .inr rfl, fun hz => by simp [hz], ?_, fun hb => ?_⟩
      · rw [if_neg hc]; cases b <;> simp [Addr.add_none]
      · rw [← Nat.add_mul]
        refine Nat.le_trans (Nat.mul_le_mul_right _ ?_) p4
        omega
      · have h1 := p5 hb
        have h2 : l = 0 := by omega
        exact ⟨by omega, by rw [h2]; simp⟩
  · rename_i n e i m
    obtain ⟨e', hu, hF, hk⟩ := elSz_ty hT (bif_c hev)
    replace hev := get_ev (bif_t hev)
    split at hev <;> try exact (fail_ev.1 hev).elim
    rename_i fr hl
    obtain ⟨⟨q0, q1, q2⟩, hev⟩ := hev
    obtain ⟨b, sz, len, cap, off, p1, rfl, p3, p4, p5, p6, p7, p8⟩ := hv
    refine ⟨_, _, hev, run_sliceAt (P := P) (w := w) hu hF hk _ _ _ lo hi q0 q1 (by omega), ?_⟩
    generalize hl' : (lo.getD 0).toNat = l at *
    generalize hh' : (hi.getD m).toNat = hh at *
    have g1 : l ≤ hh := by omega
    have g2 : hh ≤ m := by omega
    by_cases hc : cap = l
    · refine ⟨b, sz, len, cap - l, off, p1, by simp [hc], by omega, by omega, .inl (by omega), fun hz => p6 (by omega), ?_, fun hb => ?_⟩
      · have : cap - l = 0 := by omega
        rw [this, Nat.zero_mul]; omega
      · have := p8 hb; exact ⟨by omega, this.2⟩
    · refine ⟨b, sz, len, cap - l, off + l * e, p1, ?_, by omega, by omega, ?_, fun hz => ?_, ?_, fun hb => ?_⟩
      · rw [if_neg hc]; cases b <;> simp [Addr.add_none]
      · rcases p5 with p5 | p5
        · left; omega
        · right; rw [p5, Nat.add_mul]
      · have h1 : i = 0 := by omega
        have h2 : l = 0 := by omega
        rw [p6 h1, h2]; simp
      · rw [Nat.add_assoc, ← Nat.add_mul]
        have : l + (cap - l) = cap := by omega
        rw [this]; exact p7
      · have h1 := p8 hb
        have h2 : l = 0 := by omega
        exact ⟨by omega, by rw [h1.2, h2]; simp⟩
  · rename_i g
    split at hev <;> try exact (fail_ev.1 hev).elim
    rename_i m e rows hk hg
    have hb := bif_c hev
    replace hev := bif_t hev
    simp only [Bool.and_eq_true] at hb
    have b1 := Nat.eq_of_beq_eq_true hb.1
    have b2 := Nat.eq_of_beq_eq_true hb.2
    obtain ⟨hu, hF⟩ := hT.arr hk
    obtain ⟨cs, T', fr, r1, _, r2⟩ := hs.glob g rows hg
    have hv : v = .pointer (some ⟨g, 0, none⟩) := hv
    subst hv; subst b1
    have key : ∀ (rows' : Rows) (l : Int), l = lo.getD 0 → 0 ≤ l → l ≤ rows.length → hi = none → rows' = rows.drop l.toNat → (k (.t (.sl 1 rows'))).ev f ws →
        ∃ y v', (k y).ev f ws ∧ (Instr.sliceAt T (.pointer (some ⟨g, 0, none⟩)) (lo.map mkI) (hi.map mkI) none).run P w = .ok v' w ∧ SimR h β y v' := by
      intro rows' l q q0 q1 qh q3 hkev
      clear hev
      subst q; subst qh
      refine ⟨_, .slice (some (if rows.length = (lo.getD 0).toNat then ⟨g, 0, none⟩ else (Addr.mk g 0 none).add ((lo.getD 0).toNat * 1))) (rows.length - (lo.getD 0).toNat) (rows.length - (lo.getD 0).toNat), hkev, ?_, ?_⟩
      · have := run_bounds (P := P) (w := w) false rows.length rows.length lo none q0 (by simpa using q1) (by simp)
        simp only [Option.map_none] at this
        simp [Instr.sliceAt, run_underlying hu, Instr.sureAddr, this, hF.run_sizeOf, b2]
      · have hlen : rows'.length = rows.length - (lo.getD 0).toNat := by rw [q3]; simp
        rw [← hlen]
        have hh := hs.le0 _ _ r1
        split
        · refine Rep.sl_mk hh (Nat.le_refl _) ?_ rfl
          have : rows' = [] := List.eq_nil_of_length_eq_zero (by omega)
          rw [this]; exact RowsAt.nil
        · rw [Addr.add_none]
          refine Rep.sl_mk hh (Nat.le_refl _) ?_ rfl
          have := (r2.mono hs.le0).part (lo.getD 0).toNat rows.length
          rw [q3]
          rwa [List.take_of_length_le (by simp)] at this
    cases lo <;> cases hi <;> simp only at hev
    · exact key rows 0 rfl (by simp) (by simp) rfl (by simp) hev
    · exact (fail_ev.1 hev).elim
    · obtain ⟨⟨q0, q1⟩, hev⟩ := hev
      exact key _ _ rfl q0 q1 rfl rfl hev
    · exact (fail_ev.1 hev).elim
  · exact (fail_ev.1 hev).elim
theorem opdO_ev {x : Option Operand} {k : Option Int → Rd} (hev : (opdO C x k).ev f ws) : ∃ r, (k r).ev f ws ∧ ∀ {G E h β a w}, Sim G E f h β a w → x.map a.eval = r.map mkI := by
  cases x with
  | none => exact ⟨none, hev, fun _ => rfl⟩
  | some x =>
    obtain ⟨av, h1, h2⟩ := opd_ev hev
    obtain ⟨n, rfl, h3⟩ := asI_ev h1
    exact ⟨some n, h3, fun hs => by simp [simI (h2 hs)]⟩
theorem ok_slice (hT : TyOK P C.Γ) {o : Oper} {T : Nat} {x : Operand} {lo hi : Option Operand} (hev : (opd C 0 x fun a => opdO C lo fun l => opdO C hi fun h => asliceA C T a l h fun r => fin E.N o r []).ev f ws) (hop : o.op = .slice T x lo hi none) : OpOK P C.G E o f ws := by
  obtain ⟨av, hev, h2⟩ := opd_ev hev
  obtain ⟨l, hev, h3⟩ := opdO_ev hev
  obtain ⟨hh, hev, h4⟩ := opdO_ev hev
  apply OpOK.mk
  intro h β a w hs
  obtain ⟨y, v', q1, q2, q3⟩ := asliceA_ok hT hev hs (h2 hs)
  refine ⟨v', h, β, w, ?_, fin_ok q1 hs q3⟩
  simp only [execOp, hop, h3 hs, h4 hs, Option.map_none]
  exact run_v q2
/-! ## Elements' addresses -/
theorem run_indexAt {T e k : Nat} (hu : P.underlying T = some (.slice e)) (hF : Facts P C.Γ e) (hk : (C.Γ e).size = k) (b off len cap : Nat) (i : Int) (h0 : 0 ≤ i) (h1 : i < len) :
    (Instr.indexAt T (.slice (some ⟨b, off, none⟩) len cap) (.int .i64 i)).run P w = .ok (.pointer (some ⟨b, off + i.toNat * k, none⟩)) w := by
  simp [Instr.indexAt, asIntOf, run_underlying hu, h0, h1, hF.run_sizeOf, hk, Addr.add_none]
theorem aindexAddr_ok (hT : TyOK P C.Γ) {T : Nat} {x : AV} {i : Int} {k : AV → Rd} (hev : (aindexAddr C T x i k).ev f ws) (hs : Sim C.G E f h β a w) {v : Value} (hv : SimR h β x v) :
    ∃ y v', (k y).ev f ws ∧ (Instr.indexAt T v (.int .i64 i)).run P w = .ok v' w ∧ SimR h β y v' := by
  unfold aindexAddr at hev
  split at hev
  · rename_i e rows
    obtain ⟨e', hu, hF, hk⟩ := elSz_ty hT (bif_c hev)
    replace hev := bif_t hev
    obtain ⟨q0, r, hr, hev⟩ := hev
    have hlt := (List.getElem?_eq_some_iff.1 hr).1
    have hv : Rep h (.sl e rows) v := hv
    rcases hv.sl_inv with ⟨rfl, rfl⟩ | ⟨b, off, cap, cs, T', fr, rfl, r1, r2, r3⟩
    · simp at hlt
    · exact ⟨_, _, hev, run_indexAt (P := P) (w := w) hu hF hk b off _ cap i q0 (by omega), b, _, cs, T', fr, rfl, r1, r3.cells hr⟩
  · rename_i n e
    obtain ⟨e', hu, hF, hk⟩ := elSz_ty hT (bif_c hev)
    replace hev := get_ev (bif_t hev)
    split at hev <;> try exact (fail_ev.1 hev).elim
    rename_i fr hl
    replace hev := get_ev hev
    split at hev <;> try exact (fail_ev.1 hev).elim
    rename_i k' rows hr
    obtain ⟨⟨q0, q1⟩, hev⟩ := hev
    obtain ⟨b, sz, len, cap, p1, rfl, p3, p4, p5⟩ := hv
    obtain ⟨b', sz', k3, rows', e1, e2, _⟩ := hs.rows n fr hl
    rw [hr] at e2; simp only [AV.rowc.injEq] at e2; obtain ⟨rfl, rfl⟩ := e2
    rw [p1] at e1; simp only [BI.row.injEq] at e1; obtain ⟨rfl, rfl, rfl, rfl⟩ := e1
    cases b with
    | none => have := p5 rfl; omega
    | some b => exact ⟨_, _, hev, run_indexAt (P := P) (w := w) hu hF hk b 0 _ cap i q0 q1, b, sz, _, p1, by simp⟩
  · rename_i n e j m
    obtain ⟨e', hu, hF, hk⟩ := elSz_ty hT (bif_c hev)
    replace hev := get_ev (bif_t hev)
    split at hev <;> try exact (fail_ev.1 hev).elim
    obtain ⟨⟨q0, q1⟩, hev⟩ := hev
    obtain ⟨b, sz, len, cap, off, p1, rfl, p3, p4, p5, p6, p7, p8⟩ := hv
    cases b with
    | none => have := p8 rfl; omega
    | some b =>
      refine ⟨_, _, hev, run_indexAt (P := P) (w := w) hu hF hk b off _ cap i q0 q1, b, sz, _, p1, ?_⟩
      rcases p5 with p5 | p5
      · omega
      · rw [p5, Nat.add_mul, Nat.add_zero]
  · rename_i g
    split at hev <;> try exact (fail_ev.1 hev).elim
    rename_i m e rows hk hg
    have hb := bif_c hev
    replace hev := bif_t hev
    simp only [Bool.and_eq_true] at hb
    have b1 := Nat.eq_of_beq_eq_true hb.1
    have b2 := Nat.eq_of_beq_eq_true hb.2
    obtain ⟨hu, hF⟩ := hT.arr hk
    have hv : v = .pointer (some ⟨g, 0, none⟩) := hv
    subst hv; subst b1
    obtain ⟨⟨q0, q1⟩, hev⟩ := hev
    refine ⟨_, .pointer (some ⟨g, i.toNat, none⟩), hev, ?_, rfl⟩
    simp [Instr.indexAt, asIntOf, run_underlying hu, Instr.sureAddr, q0, q1, hF.run_sizeOf, b2, Addr.add_none]
  · exact (fail_ev.1 hev).elim
theorem ok_indexAddr (hT : TyOK P C.Γ) {o : Oper} {T : Nat} {x i : Operand} (hev : (opd C 0 x fun a => opd C 0 i fun i => asI i fun i => aindexAddr C T a i fun r => fin E.N o r []).ev f ws) (hop : o.op = .indexAddr T x i) : OpOK P C.G E o f ws := by
  obtain ⟨av, hev1, h2⟩ := opd_ev hev
  obtain ⟨iv, hev2, h3⟩ := opd_ev hev1
  obtain ⟨n, e, hev3⟩ := asI_ev hev2
  subst e
  clear hev hev1 hev2
  have hev := hev3
  clear hev3
  apply OpOK.mk
  intro h β a w hs
  obtain ⟨y, v', q1, q2, q3⟩ := aindexAddr_ok hT hev hs (h2 hs)
  refine ⟨v', h, β, w, ?_, fin_ok q1 hs q3⟩
  simp only [execOp, hop, simI (h3 hs)]
  exact run_v q2
theorem ok_index (hT : TyOK P C.Γ) {o : Oper} {T : Nat} {x i : Operand} (hev : (bif (C.Γ T).isS then opd C 0 x fun a => opd C 0 i fun i => asI i fun i => match a with
    | .t (.v (.string s)) => .need (0 ≤ i ∧ i < s.size) (fin E.N o (.t (.v (.int .u8 (s.data.toList.getD i.toNat 0).toNat))) [])
    | _ => .fail
    else .fail).ev f ws) (hop : o.op = .index T x i) : OpOK P C.G E o f ws := by
  have hS := isS_ty hT (bif_c hev)
  replace hev := bif_t hev
  obtain ⟨av, hev1, h2⟩ := opd_ev hev
  obtain ⟨iv, hev2, h3⟩ := opd_ev hev1
  obtain ⟨n, e, hev3⟩ := asI_ev hev2
  subst e
  clear hev hev1 hev2
  have hev := hev3
  clear hev3
  apply OpOK.mk
  intro h β a w hs
  split at hev
  · rename_i s
    obtain ⟨⟨q0, q1⟩, hev⟩ := hev
    refine ⟨_, h, β, w, ?_, fin_ok hev hs (Rep.v rfl)⟩
    simp only [execOp, hop, simI (h3 hs), (simV (h2 hs)).1]
    refine run_v ?_
    have hlt : n.toNat < s.data.size := by have : s.size = s.data.size := rfl; omega
    have hb : s[n.toNat]? = some (s.data[n.toNat]'hlt) := by
      rw [getElem?_pos s n.toNat hlt]; rfl
    have hd : s.data.toList.getD n.toNat 0 = s.data[n.toNat]'hlt := by rw [List.getD_eq_getElem?_getD, Array.getElem?_toList, Array.getElem?_eq_getElem hlt]; rfl
    simp only [Instr.index, asIntOf, Sem.run_bind, Sem.run_pure, Result.andThen_ok, run_underlying hS, q0, if_true, hb, hd]
  · exact (fail_ev.1 hev).elim
theorem rowsOf_ok {x : AV} {K : Nat → Rows → Rd} (hev1 : (rowsOf x K).ev f ws) (hs : Sim C.G E f h β a w) {v : Value} (hv : SimR h β x v) :
    ∃ k rows, (K k rows).ev f ws ∧ ((rows = [] ∧ v = .slice none 0 0) ∨ ∃ b off cap cs T fr, v = .slice (some ⟨b, off, none⟩) rows.length cap ∧ w.heap[b]? = some (.cells cs T fr) ∧ RowsAt h cs off k rows) := by
  have named : ∀ {n : Nm} {fr : Bool} {k k' : Nat} {rows : Rows} {b : Option Nat} {sz len : Nat}, f (.live n) = .lrow fr → f (.row n) = .rowc k' rows → β n = .row b sz k len → k' = k ∧ len = rows.length ∧ ((b = none ∧ rows = []) ∨ ∃ b' cs T' fr', b = some b' ∧ w.heap[b']? = some (.cells cs T' fr') ∧ RowsAt h cs 0 k rows) := by
    intro n fr k k' rows b sz len g1 g2 g3
    obtain ⟨b', sz', k3, rows', e1, e2, e3⟩ := hs.rows n fr g1
    rw [g2] at e2; simp only [AV.rowc.injEq] at e2; obtain ⟨rfl, rfl⟩ := e2
    rw [g3] at e1; simp only [BI.row.injEq] at e1; obtain ⟨rfl, rfl, rfl, rfl⟩ := e1
    refine ⟨rfl, rfl, ?_⟩
    cases b with
    | none => exact .inl ⟨rfl, e3.1⟩
    | some b =>
      right
      cases fr with
      | true => obtain ⟨cs, T', z, p1, p2⟩ := e3; exact ⟨b, cs, T', z, rfl, hs.on _ _ p1, p2⟩
      | false => obtain ⟨cs, T', p1, _, _, p2⟩ := e3; exact ⟨b, cs, T', _, rfl, p1, p2⟩
  unfold rowsOf at hev1
  split at hev1
  · rename_i k' rows
    have hv : Rep h (.sl k' rows) v := hv
    refine ⟨_, _, hev1, ?_⟩
    rcases hv.sl_inv with ⟨e1, e2⟩ | ⟨b, off, cap, cs, T', fr, e1, e2, _, e3⟩
    · exact .inl ⟨e1, e2⟩
    · exact .inr ⟨b, off, cap, cs, T', fr, e1, hs.on _ _ e2, e3⟩
  · rename_i n k0
    replace hev1 := get_ev hev1
    split at hev1 <;> try exact (fail_ev.1 hev1).elim
    rename_i fr hl
    replace hev1 := get_ev hev1
    split at hev1 <;> try exact (fail_ev.1 hev1).elim
    rename_i k' rows hr
    refine ⟨_, _, hev1, ?_⟩
    obtain ⟨b, sz, len, cap, p1, p2, p3, p4, p5⟩ := hv
    obtain ⟨g1, g2, g3⟩ := named hl hr p1
    subst g1
    rw [g2] at p2
    rcases g3 with ⟨rfl, rfl⟩ | ⟨b', cs, T', fr', rfl, g4, g5⟩
    · have := p5 rfl; subst this
      exact .inl ⟨rfl, by simpa using p2⟩
    · exact .inr ⟨b', 0, cap, cs, T', fr', p2, g4, g5⟩
  · rename_i n k0 i m
    replace hev1 := get_ev hev1
    split at hev1 <;> try exact (fail_ev.1 hev1).elim
    rename_i fr hl
    replace hev1 := get_ev hev1
    split at hev1 <;> try exact (fail_ev.1 hev1).elim
    rename_i k' rows hr
    refine ⟨_, _, hev1, ?_⟩
    obtain ⟨b, sz, len, cap, off, p1, p2, p3, p4, p5, p6, p7, p8⟩ := hv
    obtain ⟨g1, g2, g3⟩ := named hl hr p1
    subst g1
    rw [g2] at p3
    have hlen : ((rows.drop i).take m).length = m := by simp; omega
    rcases g3 with ⟨rfl, rfl⟩ | ⟨b', cs, T', fr', rfl, g4, g5⟩
    · obtain ⟨rfl, rfl⟩ := p8 rfl
      have hm : m = 0 := by simp at p3; omega
      subst hm
      exact .inl ⟨by simp, by simpa using p2⟩
    · refine .inr ⟨b', off, cap, cs, T', fr', by rw [hlen]; exact p2, g4, ?_⟩
      rcases p5 with p5 | p5
      · subst p5; simp; exact RowsAt.nil
      · have := g5.part i m
        rw [Nat.zero_add] at this
        rw [p5]; exact this
  · exact (fail_ev.1 hev1).elim
theorem bytes_cells {h : IH} {cs : Array Value} {off : Nat} {s : ByteArray} (hr : RowsAt h cs off 1 (bytesOf s)) {i : Nat} (hi : i < (bytesOf s).length) : cs[off + i]? = some (.int .u8 ((s.data.toList.map fun b => (b.toNat : Int)).getD i 0)) := by
  obtain ⟨_, val, h1, h2⟩ := hr
  have hi' : i < s.data.toList.length := by simpa [bytesOf] using hi
  have e : (bytesOf s)[i]? = some [TV.v (.int .u8 (s.data.toList[i]).toNat)] := by simp [bytesOf, List.getElem?_eq_getElem hi']
  have a := h1 i 0 _ _ e rfl
  have b := h2 i 0 _ _ e rfl
  rw [Nat.mul_one, Nat.add_zero] at a
  have hv : ∀ {v : Value}, Rep h (TV.v (.int .u8 (s.data.toList[i]).toNat)) v → v = .int .u8 (s.data.toList[i]).toNat := by intro v q; cases q; rfl
  rw [a, hv b]
  simp [List.getD_eq_getElem?_getD, List.getElem?_eq_getElem hi']
theorem ok_convert (hT : TyOK P C.Γ) {o : Oper} {src dst : Nat} {x : Operand} (hev : (bif Nat.blt 0 (C.Γ src).size then opd C src x fun a => match a with
    | .t (.v (.int _ n)) => match (C.Γ dst).k, (C.Γ dst).zero with
      | .scal, .t (.v (.int K _)) => fin E.N o (.t (.v (.int K (K.wrap n)))) []
      | _, _ => .fail
    | .t (.v (.string s)) => match (C.Γ dst).k, (C.Γ dst).zero with
      | .scal, .t (.v (.string _)) => fin E.N o (.t (.v (.string s))) []
      | _, _ => .fail
    | a => bytesToStr C E.N o src dst a
    else .fail).ev f ws) (hop : o.op = .convert src dst x) : OpOK P C.G E o f ws := by
  have hb := bif_c hev
  replace hev := bif_t hev
  obtain ⟨_, d, _, hu, _⟩ := (hT.of_pos (by simpa [Nat.blt_eq] using hb)).main
  obtain ⟨av, hev, h2⟩ := opd_ev hev
  apply OpOK.mk
  intro h β a w hs
  have dstT : ∀ {v0 : Value}, (C.Γ dst).k = .scal → (C.Γ dst).zero = .t (.v v0) → P.underlying dst = some (match v0 with | .int K _ => .int K | .string _ => .string | _ => .bool) ∨ (∀ K n, v0 ≠ .int K n) ∧ ∀ s, v0 ≠ .string s := by
    intro v0 h1 h3
    obtain ⟨i, d, _, q2, _, _, q5⟩ := (hT.facts (T := dst) (fun q => by rw [q] at h1; simp [dfltTI] at h1)).main
    simp only [DescOK, h1, h3] at q5
    cases v0 <;> simp_all
  split at hev
  · rename_i K n
    have e := (simV (h2 hs)).1
    split at hev
    · rename_i K' _ g1 g2
      refine ⟨_, h, β, w, ?_, fin_ok hev hs (Rep.v rfl)⟩
      have hd : P.underlying dst = some (.int K') := (dstT g1 g2).resolve_right (fun q => q.1 _ _ rfl)
      simp only [execOp, hop, e]
      refine run_v ?_
      cases d <;> simp [convert, run_underlying hu, run_underlying hd, Conv.intToInt]
    · exact (fail_ev.1 hev).elim
  · rename_i s
    have e := (simV (h2 hs)).1
    split at hev
    · rename_i g1 g2
      refine ⟨_, h, β, w, ?_, fin_ok hev hs (Rep.v rfl)⟩
      have hd : P.underlying dst = some .string := (dstT g1 g2).resolve_right (fun q => q.2 _ rfl)
      simp only [execOp, hop, e]
      refine run_v ?_
      cases d <;> simp [convert, run_underlying hu, run_underlying hd]
    · exact (fail_ev.1 hev).elim
  · unfold bytesToStr at hev
    split at hev
    · rename_i e _ hk1 hk2 hz
      have hu8 := bif_c hev
      replace hev := bif_t hev
      have hsl := isSl_ty (C := C) (T := src) hT (by simp [isSl, hk1])
      have hd : P.underlying dst = some .string := (dstT hk2 hz).resolve_right (fun q => q.2 _ rfl)
      have hsrc : P.underlying src = some (.slice e) := by
        obtain ⟨i, d, _, q2, _, _, q5⟩ := (hT.facts (T := src) (fun q => by rw [q] at hk1; simp [dfltTI] at hk1)).main
        simp only [DescOK, hk1] at q5
        simp_all
      have he : P.underlying e = some (.int .u8) := by
        unfold TI.isU8 at hu8
        split at hu8
        · rename_i g1 g2
          obtain ⟨i, d, _, q2, _, _, q5⟩ := (hT.facts (T := e) (fun q => by rw [q] at g1; simp [dfltTI] at g1)).main
          simp only [DescOK, g1, g2] at q5
          simp_all
        · cases hu8
      obtain ⟨k, rows, hev, hx⟩ := rowsOf_ok hev hs (h2 hs)
      have hk := Nat.eq_of_beq_eq_true (bif_c hev)
      replace hev := bif_t hev
      subst hk
      obtain ⟨r, outs, ⟨s, rfl, rfl, rfl⟩, hev⟩ := hev
      refine ⟨_, h, β, w, ?_, fin_ok hev hs (Rep.v rfl)⟩
      simp only [execOp, hop]
      refine run_v ?_
      rcases hx with ⟨e1, e2⟩ | ⟨b, off, cap, cs, T', fr, e1, e2, e3⟩
      · rw [e2, run_convert_bytes_nil w src e hsrc he 0 0 dst hd]
        have hz : s.data.toList = [] := by simpa [bytesOf] using e1
        have : s = ByteArray.empty := by
          apply ByteArray.ext
          exact Array.toList_inj.1 (by rw [hz]; rfl)
        rw [this]
      · have hlen : (bytesOf s).length = s.data.toList.length := by simp [bytesOf]
        rw [e1, run_convert_bytes_arg w src e hsrc he b off _ cap (s.data.toList.map fun b => (b.toNat : Int)) (by simp [bytesOf]) (fun i hi => by
          have := bytes_cells e3 hi
          simp [World.cell?, e2, this]) dst hd]
        congr 2
        apply ByteArray.ext
        apply Array.toList_inj.1
        simp only [strOfNums, List.map_map]
        have hid : ((fun n : Int => UInt8.ofNat n.toNat) ∘ fun b : UInt8 => (b.toNat : Int)) = id := by funext b; simp
        rw [hid, List.map_id]
    · exact (fail_ev.1 hev).elim
end
end Go.Proofs.YtaklcemgpinleaaDoor
