/- Each operation does to a fitting state what the layer says: append, clear, the other builtins. -/
import Derived.Test.YtaklcemgpinleaaDoorCr13
namespace Go.Proofs.YtaklcemgpinleaaDoor
open Go
set_option linter.unusedSimpArgs false
set_option linter.unusedVariables false
set_option linter.unnecessarySimpa false
set_option linter.unusedSectionVars false

section
variable {f : LF} {ws : Ws} {C : Cx} {P : Program} {E : Env} {h : IH} {β : BM} {a : Act} {w : World}
/-- where an append stays, and what it writes -/
theorem run_append_stay {T U e : TypeId} {d : TypeDesc} {ty : TypeId} (hu : P.underlying T = some (.slice e)) (hU : P.underlying U = some d) (hd : NotInt d) (hF : Facts P C.Γ e) {base : Option Addr} {m0 cap m : Nat} {vx : Value} {news : List Value} (hb : Brings P w (C.Γ e).size vx m news) (hroom : m0 + m ≤ cap) :
    (Builtin.append_ #[T, U] ty #[.slice base m0 cap, vx]).run P w = match base with
      | none => .ok (.slice none (m0 + m) cap) w
      | some ad => ((storeCells (ad.add (m0 * (C.Γ e).size)) news).run P w).andThen fun _ w' => .ok (.slice (some ad) (m0 + m) cap) w' := by
  have h1 := hb.1 w
  have h2 := hb.2 w rfl
  rcases hd with rfl | ⟨e', rfl⟩ <;> cases base <;> simp [Builtin.append_, run_underlying hu, run_underlying hU, hF.run_sizeOf, h1, h2, hroom]
theorem run_append_new {T U e : TypeId} {d : TypeDesc} {ty : TypeId} (hu : P.underlying T = some (.slice e)) (hU : P.underlying U = some d) (hd : NotInt d) (hF : Facts P C.Γ e) (hel : elOK C e = true) {base : Option Addr} {m0 cap m : Nat} {vx : Value} {olds news : List Value} (hb : Brings P w (C.Γ e).size vx m news)
    (hold : ∀ w', w'.heap = w.heap → (Builtin.firstCells (C.Γ e).size m0 (.slice base m0 cap)).run P w' = .ok olds.toArray w') (hroom : cap < m0 + m) (hbytes : (m0 + m) * (C.Γ e).bytes ≤ 140737488355328) :
    ∃ (zc : Array Value) (g : Nat), zc.size = (C.Γ e).size ∧ m0 + m ≤ g ∧ (Builtin.append_ #[T, U] ty #[.slice base m0 cap, vx]).run P w = .ok (.slice (some ⟨w.heap.size, 0, none⟩) (m0 + m) g) (w.drew.alloc (.cells ((olds ++ news).toArray ++ Builtin.zeroCells zc (g - (m0 + m))) e)) := by
  simp only [elOK, Bool.and_eq_true, Nat.blt_eq] at hel
  obtain ⟨i, z, z1, z2, z3, z4, z5, z6, z7⟩ := zero_of hF hel.1
  refine ⟨z.cells, grownCap w (m0 + m) cap e, z7, grownCap_ge w _ _ e, ?_⟩
  have h1 := hb.1 w
  have h2 := hb.2 w.drew rfl
  have h3 := hold w.drew rfl
  have hn : ¬ (m0 + m ≤ cap) := by omega
  have hby : ¬ (i.bytes = 0) := by rw [z6]; omega
  have h48 : ¬ (281474976710656 < Builtin.nextslicecap (m0 + m) cap * i.bytes) := by
    have := growslice_fits (bytes := i.bytes) hroom (by rw [z6]; exact hbytes)
    omega
  rcases hd with rfl | ⟨e', rfl⟩ <;> simp [Builtin.append_, run_underlying hu, run_underlying hU, hF.run_sizeOf, typeInfo, zeroValue, z1, z2, hby, h1, h2, h3, hn, h48, Question.forced, newRow, grownCap] <;> (congr 2; apply Array.ext'; simp [List.append_assoc])
theorem append_core {T U e : TypeId} {ty : TypeId} {me n : Nm} (hu : P.underlying T = some (.slice e)) (hF : Facts P C.Γ e) (hel : elOK C e = true) (hs : Sim C.G E f h β a w) (hl : f (.live n) = .lrow false) {rows0 : Rows} (hr : f (.row n) = .rowc (C.Γ e).size rows0) (hme : f (.live me) = .undef)
    {b : Option Nat} {sz len cap m0 : Nat} (hβ : β n = .row b sz (C.Γ e).size len) (h0 : m0 ≤ len) (h1 : m0 ≤ cap) (h2 : cap * (C.Γ e).size ≤ sz) (h3 : b = none → cap = 0)
    {new : Rows} {news : List Value} {vx : Value} {d : TypeDesc} (n1 : news.length = new.length * (C.Γ e).size) (n2 : RowsAt h news.toArray 0 (C.Γ e).size new) (n3 : ∀ u ∈ news, u.oneCell' = true) (n4 : Brings P w (C.Γ e).size vx new.length news) (hU : P.underlying U = some d) (hd : NotInt d) (hbytes : (m0 + new.length) * (C.Γ e).bytes ≤ 140737488355328) :
    ∃ v' β' w', (Builtin.append_ #[T, U] ty #[.slice (b.map fun b => ⟨b, 0, none⟩) m0 cap, vx]).run P w = .ok v' w' ∧ Sim C.G E (updL f (deadW [n] ++ newRowW me (C.Γ e).size (rows0.take m0 ++ new))) h β' a w' ∧ SimC h β' (.own me (C.Γ e).size) v' := by
  have hpos := hF.pos
  obtain ⟨b', sz', k3, rows', e1, e2, e3⟩ := hs.rows n false hl
  rw [hr] at e2; simp only [AV.rowc.injEq] at e2
  obtain ⟨rfl, rfl⟩ := e2
  rw [hβ] at e1; simp only [BI.row.injEq, true_and] at e1; obtain ⟨rfl, rfl, rfl⟩ := e1
  have hkill : Sim C.G E (updL f (deadW [n])) h β a w := hs.kills
  have hne : me ≠ n := fun q => by rw [q, hl] at hme; cases hme
  have hme' : updL f (deadW [n]) (.live me) = .undef := by rw [deadW_other (fun z hz => by simp at hz; subst hz; simp [hne]), hme]
  have hkept : (rows0.take m0).length = m0 := by simp; omega
  have hlenR : (rows0.take m0 ++ new).length = m0 + new.length := by simp; omega
  -- the cells: those that stay, then those that come
  have cellsOK : ∀ {cs0 cs' : Array Value}, RowsAt h cs0 0 (C.Γ e).size rows0 → (∀ j, j < m0 * (C.Γ e).size → cs'[j]? = cs0[j]?) → (∀ j, j < news.length → cs'[m0 * (C.Γ e).size + j]? = news[j]?) → RowsAt h cs' 0 (C.Γ e).size (rows0.take m0 ++ new) := by
    intro cs0 cs' g1 g2 g3
    refine RowsAt.of_cells (fun r hm => ?_) (fun i r hi => ?_)
    · rcases List.mem_append.1 hm with q | q
      · exact g1.1 r (List.mem_of_mem_take q)
      · exact n2.1 r q
    · rw [Nat.zero_add]
      by_cases q : i < m0
      · rw [List.getElem?_append_left (by omega), List.getElem?_take, if_pos q] at hi
        intro j x hj
        have hjl := (List.getElem?_eq_some_iff.1 hj).1
        have hrk := g1.1 r (List.mem_of_getElem? hi)
        obtain ⟨v, v1, v2⟩ := g1.cells hi j x hj
        refine ⟨v, ?_, v2⟩
        rw [g2 _ (idx_lt q (by omega))]
        simpa using v1
      · rw [List.getElem?_append_right (by omega), hkept] at hi
        intro j x hj
        have hjl := (List.getElem?_eq_some_iff.1 hj).1
        have hil := (List.getElem?_eq_some_iff.1 hi).1
        have hrk := n2.1 r (List.mem_of_getElem? hi)
        obtain ⟨v, v1, v2⟩ := n2.cells hi j x hj
        refine ⟨v, ?_, v2⟩
        have e1 : i * (C.Γ e).size + j = m0 * (C.Γ e).size + ((i - m0) * (C.Γ e).size + j) := by
          rw [← Nat.add_assoc, ← Nat.add_mul, Nat.add_sub_cancel' (by omega)]
        rw [e1, g3 _ (by rw [n1]; exact idx_lt hil (by omega))]
        simpa using v1
  rw [updL_append]
  by_cases hroom : m0 + new.length ≤ cap
  · have hrun := run_append_stay (ty := ty) hu hU hd hF (base := b.map fun b => ⟨b, 0, none⟩) n4 hroom
    cases b with
    | none =>
      have hc := h3 rfl; subst hc
      obtain ⟨rfl, _⟩ := e3
      have hm : m0 = 0 := by omega
      subst hm
      have hn : new = [] := List.eq_nil_of_length_eq_zero (by omega)
      subst hn
      refine ⟨_, _, w, hrun, hkill.adoptNil (k := (C.Γ e).size) (.inl hme'), ?_⟩
      exact ⟨none, 0, 0, 0, by simp [BM.set], rfl, Nat.le_refl _, by simp, fun _ => rfl⟩
    | some b =>
      obtain ⟨cs, T', p1, p2, p3, p4⟩ := e3
      have hfit : m0 * (C.Γ e).size + news.length ≤ cs.size := by
        rw [n1, ← Nat.add_mul, p2]
        exact Nat.le_trans (Nat.mul_le_mul_right _ hroom) h2
      obtain ⟨w', s1, s2⟩ := run_storeCells (P := P) (off := m0 * (C.Γ e).size) (i := 0) p1 n3 (by simpa using hfit)
      rw [Nat.add_zero] at s2
      simp only [Option.map_some, Addr.add_none, Nat.zero_add, s1, Result.andThen_ok] at hrun
      have hown : OwnB f β n b := .inl ⟨hl, _, _, _, hβ⟩
      have hno := hs.kill_no (f' := updL f (deadW [n])) hown (deadW_mem (by simp)) (fun p q1 q2 => deadW_other (fun z hz => by simp at hz; subst hz; exact ⟨q1, q2⟩))
      have hin := hs.own n b hown
      have hsz : (putA cs (m0 * (C.Γ e).size) news).size = cs.size := putA_size
      have t1 := hkill.touch p1 hsz hno p3 hin s2.os s2.tape s2.output s2.size s2.other s2.here
      have hrows := cellsOK (cs' := putA cs (m0 * (C.Γ e).size) news) p4 (fun j hj => by rw [putA_get hfit, if_neg (by omega)]) (fun j hj => by rw [putA_get hfit, if_pos (by omega), Nat.add_sub_cancel_left])
      have t2 := t1.adoptRow (n := me) (sz := cs.size) (.inl hme') s2.here hsz p3 hno hin hrows
      refine ⟨_, _, w', hrun, t2, ?_⟩
      rw [← hlenR]
      exact ⟨some b, cs.size, _, cap, by simp [BM.set], rfl, by omega, by omega, by simp⟩
  · have hold : ∃ (olds : List Value) (cs0 : Array Value), olds.length = m0 * (C.Γ e).size ∧ RowsAt h cs0 0 (C.Γ e).size rows0 ∧ (∀ j, j < m0 * (C.Γ e).size → olds[j]? = cs0[j]?) ∧ ∀ w', w'.heap = w.heap → (Builtin.firstCells (C.Γ e).size m0 (.slice (b.map fun b => ⟨b, 0, none⟩) m0 cap)).run P w' = .ok olds.toArray w' := by
      cases b with
      | none =>
        have hc := h3 rfl; subst hc
        obtain ⟨rfl, _⟩ := e3
        have hm : m0 = 0 := by omega
        subst hm
        exact ⟨[], #[], by simp, RowsAt.nil, by simp, fun w' _ => run_firstCells_none w' _ _ _ _⟩
      | some b =>
        obtain ⟨cs, T', p1, p2, p3, p4⟩ := e3
        have hle : m0 * (C.Γ e).size ≤ cs.size := by rw [p2]; exact Nat.le_trans (Nat.mul_le_mul_right _ h1) h2
        have hget : ∀ (j : Nat), j < m0 * (C.Γ e).size → (cs.toList.take (m0 * (C.Γ e).size))[j]? = cs[j]? := fun j hj => by rw [List.getElem?_take, if_pos hj]; simp
        refine ⟨cs.toList.take (m0 * (C.Γ e).size), cs, by simp; omega, p4, hget, ?_⟩
        exact (brings_slice (P := P) (k := (C.Γ e).size) (off := 0) (cap := cap) p1 (n := m0) (by simp; omega) (fun j v hj => by
          have hjl := (List.getElem?_eq_some_iff.1 hj).1
          rw [hget j (by simp at hjl; omega)] at hj
          simpa using hj)).2
    obtain ⟨olds, cs0, o1, o2, o3, o4⟩ := hold
    obtain ⟨zc, g, g1, g2, hrun⟩ := run_append_new (ty := ty) hu hU hd hF hel n4 o4 (by omega) hbytes
    have hk2 : Sim C.G E (updL f (deadW [n])) h β a w.drew := hkill.world rfl rfl rfl rfl
    have hrows := cellsOK (cs' := (olds ++ news).toArray ++ Builtin.zeroCells zc (g - (m0 + new.length))) o2 (fun j hj => by
      rw [Array.getElem?_append_left (by simp; omega), List.getElem?_toArray, List.getElem?_append_left (by omega)]
      exact o3 j hj) (fun j hj => by
      rw [Array.getElem?_append_left (by simp; omega), List.getElem?_toArray, List.getElem?_append_right (by omega)]
      simp [o1])
    obtain ⟨β', s2, _, sv⟩ := hk2.newRow hme' (T := e) hrows (cap := g) (by omega) (by
      simp only [Array.size_append, List.size_toArray, List.length_append, size_zeroCells, o1, n1, g1]
      rw [← Nat.add_mul, ← Nat.add_mul, Nat.add_sub_cancel' g2]
      exact Nat.le_refl _)
    rw [hlenR] at sv
    exact ⟨_, β', _, hrun, s2, sv⟩
theorem simA_two {x y : AV} {vs : List Value} (hv : SimA h β [x, y] vs) : ∃ v u, vs = [v, u] ∧ SimR h β x v ∧ SimR h β y u := by
  match vs, hv with
  | [v, u], hv => exact ⟨v, u, rfl, hv.1, hv.2.1⟩
  | [], hv => exact hv.elim
  | [_], hv => exact hv.2.elim
  | _ :: _ :: _ :: _, hv => exact hv.2.2.elim
theorem simA_one {x : AV} {vs : List Value} (hv : SimA h β [x] vs) : ∃ v, vs = [v] ∧ SimR h β x v := by
  match vs, hv with
  | [v], hv => exact ⟨v, rfl, hv.1⟩
  | [], hv => exact hv.elim
  | _ :: _ :: _, hv => exact hv.2.elim
theorem aappend_ok (hT : TyOK P C.Γ) {o : Oper} {me : Nm} {T e U ty : TypeId} {x y : AV} (hk : (C.Γ T).k = .slice e) (hev : (aappend C E.N me o e U x y).ev f ws) (hs : Sim C.G E f h β a w) {v u : Value} (hv : SimR h β x v) (hu' : SimR h β y u) :
    ∃ v' h' β' w', (Builtin.append_ #[T, U] ty #[v, u]).run P w = .ok v' w' ∧ Sim C.G E (updL f ws) h' β' (a.put o.dst v') w' := by
  obtain ⟨hu, hF⟩ := hT.slice hk
  unfold aappend at hev
  split at hev
  · rename_i n k
    have hb := bif_c hev
    replace hev := get_ev (bif_t hev)
    simp only [Bool.and_eq_true] at hb
    have hkk := Nat.eq_of_beq_eq_true hb.2; subst hkk
    split at hev <;> try exact (fail_ev.1 hev).elim
    rename_i hl
    replace hev := get_ev hev
    split at hev <;> try exact (fail_ev.1 hev).elim
    rename_i k' rows hr
    obtain ⟨b, sz, len, cap, p1, p2, p3, p4, p5⟩ := hv
    obtain ⟨b', sz', k3, rows', e1, e2, _⟩ := hs.rows n false hl
    have hk' : k' = (C.Γ e).size ∧ len = rows.length := by
      rw [hr] at e2; simp only [AV.rowc.injEq] at e2
      rw [p1] at e1; simp only [BI.row.injEq] at e1
      exact ⟨by rw [e1.2.2.1, e2.1], by rw [e1.2.2.2, e2.2]⟩
    obtain ⟨rfl, rfl⟩ := hk'
    obtain ⟨new, news, hev1, n1, n2, n3, n4, d, hU, hd⟩ := items_ok hT hF.pos hev hs hu'
    obtain ⟨hneed, hev2⟩ := hev1
    obtain ⟨hev3, hfr⟩ := fresh_ev hev2
    obtain ⟨v', β', w', g1, g2, g3⟩ := append_core (ty := ty) hu hF hb.1 hs hl hr (hfr me (.lrow false) (by simp [newRowW])) p1 (Nat.le_refl _) p3 p4 p5 n1 n2 n3 n4 hU hd hneed
    rw [List.take_length] at g2
    exact ⟨v', h, β', w', by rw [p2]; exact g1, fin_ok hev3 g2 g3⟩
  · rename_i n k m
    have hb := bif_c hev
    replace hev := get_ev (bif_t hev)
    simp only [Bool.and_eq_true] at hb
    have hkk := Nat.eq_of_beq_eq_true hb.2; subst hkk
    split at hev <;> try exact (fail_ev.1 hev).elim
    rename_i hl
    replace hev := get_ev hev
    split at hev <;> try exact (fail_ev.1 hev).elim
    rename_i k' rows hr
    obtain ⟨b, sz, len, cap, off, p1, p2, p3, p4, p5, p6, p7, p8⟩ := hv
    have ho := p6 rfl; subst ho
    obtain ⟨b', sz', k3, rows', e1, e2, _⟩ := hs.rows n false hl
    have hk' : k' = (C.Γ e).size ∧ len = rows.length := by
      rw [hr] at e2; simp only [AV.rowc.injEq] at e2
      rw [p1] at e1; simp only [BI.row.injEq] at e1
      exact ⟨by rw [e1.2.2.1, e2.1], by rw [e1.2.2.2, e2.2]⟩
    obtain ⟨rfl, rfl⟩ := hk'
    obtain ⟨new, news, hev1, n1, n2, n3, n4, d, hU, hd⟩ := items_ok hT hF.pos hev hs hu'
    obtain ⟨hneed, hev2⟩ := hev1
    obtain ⟨hev3, hfr⟩ := fresh_ev hev2
    obtain ⟨v', β', w', g1, g2, g3⟩ := append_core (ty := ty) hu hF hb.1 hs hl hr (hfr me (.lrow false) (by simp [newRowW])) p1 (by omega) p4 (by omega) (fun q => (p8 q).1) n1 n2 n3 n4 hU hd hneed
    exact ⟨v', h, β', w', by rw [p2]; exact g1, fin_ok hev3 g2 g3⟩
  · exact (fail_ev.1 hev).elim
theorem map_const (z : List TV) : ∀ rows : Rows, (rows.map fun _ => z) = List.replicate rows.length z
  | [] => rfl
  | r :: rows => by simp [map_const z rows, List.replicate_succ]
theorem clear_ok (hT : TyOK P C.Γ) {o : Oper} {T e ty : TypeId} {n : Nm} {k : Nat} {z : List TV} (hk : (C.Γ T).k = .slice e) (hz : zrow C e = some z) (hsz : (C.Γ e).size = k) (hl : f (.live n) = .lrow false) {k' : Nat} {rows : Rows} (hr : f (.row n) = .rowc k' rows)
    (hev : (fin E.N o (.tup []) [(.row n, .rowc k (rows.map fun _ => z))]).ev f ws) (hs : Sim C.G E f h β a w) {v : Value} (hv : SimR h β (.own n k) v) :
    ∃ v' h' β' w', (Builtin.clear_ #[T] ty #[v]).run P w = .ok v' w' ∧ Sim C.G E (updL f ws) h' β' (a.put o.dst v') w' := by
  obtain ⟨hu, hF⟩ := hT.slice hk
  subst hsz
  obtain ⟨i, zv, z1, z2, z3, z4, z5, z6, z7⟩ := zero_of hF (zrow_def hz)
  obtain ⟨b, sz, len, cap, p1, rfl, p3, p4, p5⟩ := hv
  obtain ⟨b', sz', k3, rows', e1, e2, e3⟩ := hs.rows n false hl
  rw [hr] at e2; simp only [AV.rowc.injEq] at e2; obtain ⟨rfl, rfl⟩ := e2
  rw [p1] at e1; simp only [BI.row.injEq] at e1; obtain ⟨rfl, rfl, rfl, rfl⟩ := e1
  have hrep := zrow_rep (h := h) w z3 hz
  have same : rows = [] → (fun _ : Unit => updL f [(Pl.row n, AV.rowc (C.Γ e).size (rows.map fun _ => z))]) () = f := fun q => by
    subst q
    funext p
    simp only [updL, List.map_nil, upd]
    split
    · rename_i q; rw [q, hr]
    · rfl
  cases b with
  | none =>
    obtain ⟨rfl, _⟩ := e3
    have hc := p5 rfl; subst hc
    refine ⟨.tuple #[], h, β, w, ?_, fin_ok hev ?_ ⟨#[], rfl, trivial⟩⟩
    · simp [Builtin.clear_, run_underlying hu]
    · have := same rfl; simp only at this; rw [this]; exact hs
  | some b =>
    by_cases h0 : rows.length = 0
    · have hn : rows = [] := List.eq_nil_of_length_eq_zero h0
      refine ⟨.tuple #[], h, β, w, ?_, fin_ok hev ?_ ⟨#[], rfl, trivial⟩⟩
      · simp [Builtin.clear_, run_underlying hu, h0]
      · have := same hn; simp only at this; rw [this]; exact hs
    · obtain ⟨cs, T', q1, q2, q3, q4⟩ := e3
      have hsize : (Builtin.zeroCells zv.cells rows.length).toList.length = rows.length * (C.Γ e).size := by
        rw [Array.length_toList, size_zeroCells, z7]
      have hzc : ∀ j, j < rows.length * (C.Γ e).size → (Builtin.zeroCells zv.cells rows.length)[j]? = zv.cells[j % (C.Γ e).size]? := fun j hj => by
        have hlt : j % (C.Γ e).size < zv.cells.size := by rw [z7]; exact Nat.mod_lt _ hF.pos
        simp [Builtin.zeroCells, z7, hj]
        rw [Array.getElem?_eq_getElem hlt, getElem!_pos zv.cells _ hlt]
      have hfit : 0 + 0 + (Builtin.zeroCells zv.cells rows.length).toList.length ≤ cs.size := by
        rw [hsize, q2]
        have := Nat.mul_le_mul_right (C.Γ e).size p3
        omega
      have hone : ∀ u ∈ (Builtin.zeroCells zv.cells rows.length).toList, u.oneCell' = true := fun u hu => by
        obtain ⟨j, hj⟩ := List.getElem?_of_mem hu
        have hjl := (List.getElem?_eq_some_iff.1 hj).1
        rw [hsize] at hjl
        rw [Array.getElem?_toList, hzc j hjl] at hj
        exact hrep.one u (List.mem_of_getElem? (by simpa using hj))
      obtain ⟨w', s1, s2⟩ := run_storeCells (P := P) (off := 0) (i := 0) q1 hone hfit
      have hmap := map_const z rows
      have hrows := zeros_rows (cs := putA cs (0 + 0) (Builtin.zeroCells zv.cells rows.length).toList) (h := h) (n := rows.length) hrep z7 (fun j hj => by
        rw [putA_get hfit, if_pos (by rw [hsize]; omega), Array.getElem?_toList]
        simpa using hzc j hj)
      refine ⟨.tuple #[], h, β, w', ?_, fin_ok hev ?_ ⟨#[], rfl, trivial⟩⟩
      · have s1' := s1
        simp [Builtin.clear_, run_underlying hu, h0, zeroValue, typeInfo, z1, z2, s1']
      · simp only [updL]
        rw [hmap]
        exact hs.wrote_row hl p1 q1 putA_size (by simp) hrows s2
theorem ok_builtin (hT : TyOK P C.Γ) {o : Oper} {me : Nm} {b : Builtin} {args : Array Operand} {argTypes : Array TypeId} (hev : (opds C args.toList argTypes.toList fun xs => abuiltin C E.N me o b argTypes.toList xs).ev f ws) (hop : o.op = .call { callee := .builtin b, args, argTypes }) : OpOK P C.G E o f ws := by
  obtain ⟨avs, hev1, h2⟩ := opds_ev hev
  clear hev
  apply OpOK.mk
  intro h β a w hs
  have hv := h2 hs
  clear h2
  obtain ⟨consts, hrun⟩ := run_builtin (P := P) (a := a) (w := w) hop
  rw [hrun]
  clear hrun
  have hargs : args.map a.eval = (args.toList.map a.eval).toArray := by apply Array.ext'; rw [Array.toList_map]
  rw [hargs]
  generalize args.toList.map a.eval = vs at hv
  obtain ⟨Ts⟩ := argTypes
  simp only at hev1
  unfold abuiltin at hev1
  split at hev1
  · obtain ⟨v, rfl, hv1⟩ := simA_one hv
    obtain ⟨n, q1, q2⟩ := lenOf_ok (ty := o.type) hT hev1 hs hv1
    exact ⟨_, h, β, w, run_v q2, fin_ok q1 hs (Rep.v rfl)⟩
  · obtain ⟨v, u, rfl, hv1, hu⟩ := simA_two hv
    have e1 := (simV hv1).1; have e2 := (simV hu).1
    subst e1; subst e2
    exact ⟨_, h, β, w, run_v (run_min_int2 w _ _ _ _ _ _), fin_ok hev1 hs (Rep.v rfl)⟩
  · obtain ⟨v, u, rfl, hv1, hu⟩ := simA_two hv
    have e1 := (simV hv1).1; have e2 := (simV hu).1
    subst e1; subst e2
    exact ⟨_, h, β, w, run_v (run_max_int2 w _ _ _ _ _ _), fin_ok hev1 hs (Rep.v rfl)⟩
  · obtain ⟨v, u, rfl, hv1, hu⟩ := simA_two hv
    split at hev1 <;> try exact (fail_ev.1 hev1).elim
    rename_i e hk
    obtain ⟨v', h', β', w', q1, q2⟩ := aappend_ok (ty := o.type) hT hk hev1 hs hv1 hu
    exact ⟨v', h', β', w', run_v q1, q2⟩
  · obtain ⟨v, rfl, hv1⟩ := simA_one hv
    split at hev1 <;> try exact (fail_ev.1 hev1).elim
    rename_i e hk
    split at hev1 <;> try exact (fail_ev.1 hev1).elim
    rename_i z hz
    have hsz := Nat.eq_of_beq_eq_true (bif_c hev1)
    replace hev1 := get_ev (bif_t hev1)
    split at hev1 <;> try exact (fail_ev.1 hev1).elim
    rename_i hl
    replace hev1 := get_ev hev1
    split at hev1 <;> try exact (fail_ev.1 hev1).elim
    rename_i hr
    obtain ⟨v', h', β', w', q1, q2⟩ := clear_ok (ty := o.type) hT hk hz hsz hl hr hev1 hs hv1
    exact ⟨v', h', β', w', run_v q1, q2⟩
  · exact (fail_ev.1 hev1).elim
end
end Go.Proofs.YtaklcemgpinleaaDoor
