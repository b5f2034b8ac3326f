/- Each operation does to a fitting state what the layer says: make, append, clear. -/
import Derived.Test.YtaklcemgpinleaaDoorCr12
namespace Go.Proofs.YtaklcemgpinleaaDoor
open Go
set_option linter.unusedSimpArgs false
set_option linter.unusedVariables false
set_option linter.unnecessarySimpa false
set_option linter.unusedSectionVars false

section
variable {f : LF} {ws : Ws} {C : Cx} {P : Program} {E : Env} {h : IH} {β : BM} {a : Act} {w : World}
theorem ok_makeSlice (hT : TyOK P C.Γ) {o : Oper} {me : Nm} {T : Nat} {l c : Operand} (hev : (match (C.Γ T).k with
    | .slice e => match zrow C e with
      | some z => opd C 0 l fun l => opd C 0 c fun c => asI l fun l => asI c fun c =>
          .need (0 ≤ l ∧ l ≤ c ∧ c ≤ 140737488355328 ∧ c * (C.Γ e).bytes ≤ 140737488355328)
            (fresh (fin E.N o (.own me (C.Γ e).size) (newRowW me (C.Γ e).size (List.replicate l.toNat z))) (newRowW me 0 []))
      | none => .fail
    | _ => .fail).ev f ws) (hop : o.op = .makeSlice T l c) : OpOK P C.G E o f ws := by
  split at hev <;> try exact (fail_ev.1 hev).elim
  rename_i e hk
  split at hev <;> try exact (fail_ev.1 hev).elim
  rename_i zr hz
  obtain ⟨hu, hF⟩ := hT.slice hk
  obtain ⟨lv, hev1, h2⟩ := opd_ev hev
  obtain ⟨cv, hev2, h3⟩ := opd_ev hev1
  obtain ⟨ln, e1, hev3⟩ := asI_ev hev2
  obtain ⟨cn, e2, hev4⟩ := asI_ev hev3
  subst e1; subst e2
  obtain ⟨⟨q0, q1, q2, q3⟩, hev5⟩ := hev4
  obtain ⟨hev6, hfr⟩ := fresh_ev hev5
  clear hev hev1 hev2 hev3
  have hme := hfr me (.lrow false) (by simp [newRowW])
  obtain ⟨i, z, z1, z2, z3, z4, z5, z6, z7⟩ := zero_of hF (zrow_def hz)
  apply OpOK.mk
  intro h β a w hs
  have hrun := run_make (P := P) w T e i z hu z1 z2 .i64 .i64 ln cn q0 q1 (by rw [z6, Int.mul_comm]; omega) (by omega)
  have hpos := hF.pos
  have hrows := zeros_rows (cs := madeCells z.cells (cn.toNat * i.size)) (h := h) (n := ln.toNat) (zrow_rep w z3 hz) z7 (fun j hj => by
    have hlt : j % (C.Γ e).size < z.cells.size := by rw [z7]; exact Nat.mod_lt _ hpos
    have hjc : j < cn.toNat * i.size := by
      have : ln.toNat * (C.Γ e).size ≤ cn.toNat * (C.Γ e).size := Nat.mul_le_mul_right _ (by omega)
      rw [z5]; omega
    simp [madeCells, hjc, z7]
    rw [Array.getElem?_eq_getElem hlt, getElem!_pos z.cells _ hlt])
  obtain ⟨β', s2, _, sv⟩ := hs.newRow hme (T := e) hrows (cap := cn.toNat) (by simp; omega) (by rw [size_madeCells, z5]; exact Nat.le_refl _)
  rw [List.length_replicate] at sv
  refine ⟨_, h, β', _, ?_, fin_ok hev6 s2 sv⟩
  simp only [execOp, hop, simI (h2 hs), simI (h3 hs)]
  exact run_v hrun

/-! ## What is appended -/
theorem RowsAt.flat {cs : Array Value} {off k : Nat} {rows : Rows} (hr : RowsAt h cs off k rows) (hk : 0 < k) : ∃ news : List Value, news.length = rows.length * k ∧ RowsAt h news.toArray 0 k rows ∧ (∀ u ∈ news, u.oneCell' = true) ∧ ∀ j v, news[j]? = some v → cs[off + j]? = some v := by
  have hb : off + rows.length * k ≤ cs.size ∨ rows = [] := by
    cases hl : rows.length with
    | zero => exact .inr (List.eq_nil_of_length_eq_zero hl)
    | succ n =>
      left
      have := hr.bound (i := n) (by omega) hk
      rw [Nat.add_mul]; omega
  rcases hb with hb | rfl
  · have hget : ∀ (j : Nat), j < rows.length * k → ((cs.toList.drop off).take (rows.length * k))[j]? = cs[off + j]? := fun j hj => by
      rw [List.getElem?_take, if_pos hj, List.getElem?_drop]; simp
    refine ⟨(cs.toList.drop off).take (rows.length * k), by simp; omega, RowsAt.of_cells hr.1 (fun i r hi => ?_), fun u hu => ?_, fun j v hj => ?_⟩
    · intro j x hj
      have hlt := (List.getElem?_eq_some_iff.1 hi).1
      have hjl := (List.getElem?_eq_some_iff.1 hj).1
      have hrk := hr.1 r (List.mem_of_getElem? hi)
      obtain ⟨v, v1, v2⟩ := hr.cells hi j x hj
      refine ⟨v, ?_, v2⟩
      rw [Nat.zero_add, List.getElem?_toArray, hget _ (idx_lt hlt (by omega)), ← Nat.add_assoc]; exact v1
    · obtain ⟨j, hj⟩ := List.getElem?_of_mem hu
      have hjl : j < rows.length * k := by
        have := (List.getElem?_eq_some_iff.1 hj).1
        simp at this; omega
      rw [hget j hjl] at hj
      have hi : j / k < rows.length := by rw [Nat.div_lt_iff_lt_mul hk]; exact hjl
      have hri : rows[j / k]? = some rows[j / k] := by simp [hi]
      have hlen := hr.1 _ (List.getElem_mem hi)
      have hm : j % k < rows[j / k].length := by rw [hlen]; exact Nat.mod_lt _ hk
      obtain ⟨v, v1, v2⟩ := hr.cells hri (j % k) _ (List.getElem?_eq_getElem hm)
      rw [Nat.add_assoc, Nat.mul_comm, Nat.div_add_mod] at v1
      rw [hj] at v1; simp at v1; subst v1
      exact v2.one
    · have hjl : j < rows.length * k := by
        have := (List.getElem?_eq_some_iff.1 hj).1
        simp at this; omega
      rw [hget j hjl] at hj; exact hj
  · exact ⟨[], by simp, RowsAt.nil, by simp, by simp⟩
def Brings (P : Program) (w : World) (k : Nat) (v : Value) (m : Nat) (news : List Value) : Prop :=
  (∀ w', (Builtin.lenOf v).run P w' = .ok m w') ∧ ∀ w', w'.heap = w.heap → (Builtin.firstCells k m v).run P w' = .ok news.toArray w'
theorem brings_slice {b off n cap k : Nat} {cs : Array Value} {T : TypeId} {fr : Nat × Nat} (hb : w.heap[b]? = some (.cells cs T fr)) {news : List Value} (hl : news.length = n * k) (hc : ∀ j v, news[j]? = some v → cs[off + j]? = some v) : Brings P w k (.slice (some ⟨b, off, none⟩) n cap) n news := by
  refine ⟨fun w' => by simp [Builtin.lenOf], fun w' hw => run_firstCells_some w' k n _ n cap news hl (fun j v hj => ?_)⟩
  rw [Addr.add_none, cell?_of (by rw [hw]; exact hb)]; exact hc j v hj
theorem brings_nil {k : Nat} : Brings P w k (.slice none 0 0) 0 [] := ⟨fun w' => by simp [Builtin.lenOf], fun w' _ => run_firstCells_none w' k 0 0 0⟩
theorem bytes_flat (s : ByteArray) : ∃ news : List Value, news.length = (bytesOf s).length * 1 ∧ RowsAt h news.toArray 0 1 (bytesOf s) ∧ (∀ u ∈ news, u.oneCell' = true) ∧ Brings P w 1 (.string s) (bytesOf s).length news := by
  refine ⟨s.data.toList.map fun b => .int .u8 b.toNat, by simp [bytesOf], RowsAt.of_cells (fun r hr => ?_) (fun i r hi => ?_), fun u hu => ?_, fun w' => ?_, fun w' _ => ?_⟩
  · simp [bytesOf] at hr; obtain ⟨b, _, rfl⟩ := hr; rfl
  · intro j x hj
    simp only [bytesOf, List.getElem?_map, Option.map_eq_some_iff] at hi
    obtain ⟨b, hb, rfl⟩ := hi
    cases j with
    | zero => simp at hj; subst hj; exact ⟨_, by simp at hb ⊢; exact ⟨b, hb, rfl⟩, .v rfl⟩
    | succ j => simp at hj
  · simp at hu; obtain ⟨b, _, rfl⟩ := hu; rfl
  · simp only [Builtin.lenOf, bytesOf, List.length_map, Array.length_toList, Sem.run_pure]; rfl
  · simp only [Builtin.firstCells, Sem.run_pure, bytesOf, List.length_map, Array.length_toList]
    have : s.extract 0 s.data.size = s := by
      have h1 : s.data.size = s.size := rfl
      rw [h1]; exact ByteArray.extract_zero_size
    rw [this]
    congr 1
    apply Array.ext'
    simp
def NotInt (d : TypeDesc) : Prop := d = .string ∨ ∃ e, d = .slice e
theorem items_ok (hT : TyOK P C.Γ) {k U : Nat} {x : AV} {K : Rows → Rd} (hk : 0 < k) (hev : (items C k U x K).ev f ws) (hs : Sim C.G E f h β a w) {v : Value} (hv : SimR h β x v) :
    ∃ rows news, (K rows).ev f ws ∧ news.length = rows.length * k ∧ RowsAt h news.toArray 0 k rows ∧ (∀ u ∈ news, u.oneCell' = true) ∧ Brings P w k v rows.length news ∧ ∃ d, P.underlying U = some d ∧ NotInt d := by
  unfold items at hev
  split at hev
  · rename_i s
    have hb := bif_c hev
    have hev1 := bif_t hev
    simp only [Bool.and_eq_true] at hb
    have := Nat.eq_of_beq_eq_true hb.2; subst this
    have := (simV hv).1; subst this
    obtain ⟨news, n1, n2, n3, n4⟩ := bytes_flat (P := P) (w := w) (h := h) s
    exact ⟨_, news, hev1, n1, n2, n3, n4, _, isS_ty hT hb.1, .inl rfl⟩
  · obtain ⟨e', hu⟩ := isSl_ty hT (bif_c hev)
    have hev1 := bif_t hev
    clear hev
    have done : ∀ {rows : Rows} {cs : Array Value} {b off cap : Nat} {T : TypeId} {fr : Nat × Nat}, (K rows).ev f ws → w.heap[b]? = some (.cells cs T fr) → RowsAt h cs off k rows → v = .slice (some ⟨b, off, none⟩) rows.length cap →
        ∃ rows news, (K rows).ev f ws ∧ news.length = rows.length * k ∧ RowsAt h news.toArray 0 k rows ∧ (∀ u ∈ news, u.oneCell' = true) ∧ Brings P w k v rows.length news ∧ ∃ d, P.underlying U = some d ∧ NotInt d := by
      intro rows cs b off cap T fr g1 g2 g3 g4
      obtain ⟨news, n1, n2, n3, n4⟩ := g3.flat hk
      exact ⟨rows, news, g1, n1, n2, n3, g4 ▸ brings_slice g2 n1 n4, _, hu, .inr ⟨_, rfl⟩⟩
    have nil : ∀ {rows : Rows}, (K rows).ev f ws → rows = [] → v = .slice none 0 0 →
        ∃ rows news, (K rows).ev f ws ∧ news.length = rows.length * k ∧ RowsAt h news.toArray 0 k rows ∧ (∀ u ∈ news, u.oneCell' = true) ∧ Brings P w k v rows.length news ∧ ∃ d, P.underlying U = some d ∧ NotInt d := by
      intro rows g1 g2 g3
      subst g2
      exact ⟨[], [], g1, by simp, RowsAt.nil, by simp, g3 ▸ brings_nil, _, hu, .inr ⟨_, rfl⟩⟩
    have named : ∀ {n : Nm} {fr : Bool} {k' : Nat} {rows : Rows} {b : Option Nat} {sz len : Nat}, f (.live n) = .lrow fr → f (.row n) = .rowc k' rows → β n = .row b sz k len → k' = k ∧ len = rows.length ∧ ((b = none ∧ rows = []) ∨ ∃ b' cs T' fr', b = some b' ∧ w.heap[b']? = some (.cells cs T' fr') ∧ RowsAt h cs 0 k rows) := by
      intro n fr k' rows b sz len g1 g2 g3
      obtain ⟨b', sz', k3, rows', e1, e2, e3⟩ := hs.rows n fr g1
      rw [g2] at e2; simp only [AV.rowc.injEq] at e2; obtain ⟨rfl, rfl⟩ := e2
      rw [g3] at e1; simp only [BI.row.injEq] at e1; obtain ⟨rfl, rfl, rfl, rfl⟩ := e1
      refine ⟨rfl, rfl, ?_⟩
      cases b with
      | none => exact .inl ⟨rfl, e3.1⟩
      | some b =>
        right
        cases fr with
        | true => obtain ⟨cs, T', z, p1, p2⟩ := e3; exact ⟨b, cs, T', z, rfl, hs.on _ _ p1, p2⟩
        | false => obtain ⟨cs, T', p1, _, _, p2⟩ := e3; exact ⟨b, cs, T', _, rfl, p1, p2⟩
    unfold rowsOf at hev1
    split at hev1
    · rename_i k' rows _
      have := Nat.eq_of_beq_eq_true (bif_c hev1); subst this
      have hev2 := bif_t hev1
      have hv : Rep h (.sl k' rows) v := hv
      rcases hv.sl_inv with ⟨e1, e2⟩ | ⟨b, off, cap, cs, T', fr, e1, e2, _, e3⟩
      · exact nil hev2 e1 e2
      · exact done hev2 (hs.on _ _ e2) e3 e1
    · rename_i n k0 _
      replace hev1 := get_ev hev1
      split at hev1 <;> try exact (fail_ev.1 hev1).elim
      rename_i fr hl
      replace hev1 := get_ev hev1
      split at hev1 <;> try exact (fail_ev.1 hev1).elim
      rename_i k' rows hr
      have hkk := Nat.eq_of_beq_eq_true (bif_c hev1)
      have hev2 := bif_t hev1
      obtain ⟨b, sz, len, cap, p1, p2, p3, p4, p5⟩ := hv
      obtain ⟨b', sz', k3, rows', e1, e2, e3⟩ := hs.rows n fr hl
      have hk0 : k0 = k := by
        rw [hr] at e2; simp only [AV.rowc.injEq] at e2
        rw [p1] at e1; simp only [BI.row.injEq] at e1
        rw [e1.2.2.1, ← e2.1, hkk]
      subst hk0
      obtain ⟨_, g2, g3⟩ := named hl hr p1
      subst g2
      rcases g3 with ⟨rfl, rfl⟩ | ⟨b', cs, T', fr', rfl, g4, g5⟩
      · have := p5 rfl; subst this
        exact nil hev2 rfl (by simpa using p2)
      · exact done hev2 g4 g5 p2
    · rename_i n k0 i m _
      replace hev1 := get_ev hev1
      split at hev1 <;> try exact (fail_ev.1 hev1).elim
      rename_i fr hl
      replace hev1 := get_ev hev1
      split at hev1 <;> try exact (fail_ev.1 hev1).elim
      rename_i k' rows hr
      have hkk := Nat.eq_of_beq_eq_true (bif_c hev1)
      have hev2 := bif_t hev1
      obtain ⟨b, sz, len, cap, off, p1, p2, p3, p4, p5, p6, p7, p8⟩ := hv
      obtain ⟨b', sz', k3, rows', e1, e2, e3⟩ := hs.rows n fr hl
      have hk0 : k0 = k := by
        rw [hr] at e2; simp only [AV.rowc.injEq] at e2
        rw [p1] at e1; simp only [BI.row.injEq] at e1
        rw [e1.2.2.1, ← e2.1, hkk]
      subst hk0
      obtain ⟨_, g2, g3⟩ := named hl hr p1
      subst g2
      have hlen : ((rows.drop i).take m).length = m := by simp; omega
      rcases g3 with ⟨rfl, rfl⟩ | ⟨b', cs, T', fr', rfl, g4, g5⟩
      · obtain ⟨rfl, rfl⟩ := p8 rfl
        have hm : m = 0 := by omega
        subst hm
        exact nil hev2 (by simp) (by simpa using p2)
      · refine done (off := off) hev2 g4 ?_ (by rw [hlen]; exact p2)
        rcases p5 with p5 | p5
        · subst p5; simp; exact RowsAt.nil
        · have := g5.part i m
          rw [Nat.zero_add] at this
          rw [p5]; exact this
    · exact (fail_ev.1 hev1).elim
end
end Go.Proofs.YtaklcemgpinleaaDoor
