/- Each operation does to a fitting state what the layer says: reading, writing, addresses. -/
import Derived.Test.YtaklcemgpinleaaDoorCr7
namespace Go.Proofs.YtaklcemgpinleaaDoor
open Go
set_option linter.unusedSimpArgs false
set_option linter.unusedVariables false
set_option linter.unnecessarySimpa false
set_option linter.unusedSectionVars false

section
variable {f : LF} {ws : Ws} {C : Cx} {P : Program} {E : Env} {h : IH} {β : BM} {a : Act} {w : World}
theorem simR_of_C {x : AV} {v : Value} (hv : SimC h β x v) : SimR h β x v := by cases x <;> first | exact hv | exact hv.elim
theorem get_ev {p : Pl} {k : AV → Rd} (hev : (Rd.get p k).ev f ws) : (k (f p)).ev f ws := hev
theorem bif_c {b : Bool} {x : Rd} (h : (bif b then x else .fail).ev f ws) : b = true := (bif_fail_ev h).1
theorem bif_t {b : Bool} {x : Rd} (h : (bif b then x else .fail).ev f ws) : x.ev f ws := (bif_fail_ev h).2
theorem takeN_some : ∀ {n : Nat} {xs l : List TV}, takeN n xs = some l → l.length = n ∧ ∀ (j : Nat) (x : TV), l[j]? = some x → xs[j]? = some x
  | 0, _, l, hl => by simp [takeN] at hl; subst hl; simp
  | n + 1, [], l, hl => by simp [takeN] at hl
  | n + 1, x :: xs, l, hl => by
    simp only [takeN] at hl
    cases hq : takeN n xs with
    | none => simp [hq] at hl
    | some l' =>
      simp [hq] at hl; subst hl
      obtain ⟨h1, h2⟩ := takeN_some hq
      refine ⟨by simp [h1], fun j y hj => ?_⟩
      cases j with
      | zero => simpa using hj
      | succ j => simpa using h2 j y (by simpa using hj)
theorem partOf_ev {T c : Nat} {r : List TV} {k : AV → Rd} (hev : (partOf C T r c k).ev f ws) : ∃ l, l.length = (C.Γ T).size ∧ (∀ j x, l[j]? = some x → r[c + j]? = some x) ∧
    (((C.Γ T).isAgg = true ∧ (k (.agg (l.map .t))).ev f ws) ∨ ((C.Γ T).isAgg = false ∧ ∃ x, l = [x] ∧ (k (.t x)).ev f ws)) := by
  unfold partOf at hev
  split at hev
  · rename_i l hl
    obtain ⟨h1, h2⟩ := takeN_some hl
    refine ⟨l, h1, fun j x hj => by simpa [List.getElem?_drop] using h2 j x hj, ?_⟩
    rcases bif_ev.1 hev with ⟨hb, hev⟩ | ⟨hb, hev⟩
    · exact .inl ⟨hb, hev⟩
    · split at hev
      · exact .inr ⟨hb, _, rfl, hev⟩
      · exact (fail_ev.1 hev).elim
  · exact (fail_ev.1 hev).elim
theorem cells_vals {cs : Array Value} {off : Nat} {r : List TV} (hc : CellsAt h cs off r) : ∀ {l : List TV} {c : Nat}, (∀ j x, l[j]? = some x → r[c + j]? = some x) →
    ∃ vs : List Value, vs.length = l.length ∧ (∀ j v, vs[j]? = some v → cs[off + c + j]? = some v) ∧ SimL h β (l.map .t) vs
  | [], c, _ => ⟨[], rfl, by simp, trivial⟩
  | x :: l, c, hl => by
    obtain ⟨v, h1, h2⟩ := hc c x (by simpa using hl 0 x rfl)
    obtain ⟨vs, h3, h4, h5⟩ := cells_vals hc (l := l) (c := c + 1) (fun j y hj => by
      have := hl (j + 1) y (by simpa using hj)
      rwa [show c + (j + 1) = c + 1 + j from by omega] at this)
    refine ⟨v :: vs, by simp [h3], fun j u hj => ?_, ⟨h2, h5⟩⟩
    cases j with
    | zero => simp at hj; subst hj; simpa using h1
    | succ j =>
      have := h4 j u (by simpa using hj)
      rwa [show off + (c + 1) + j = off + c + (j + 1) from by omega] at this
/-- A variable is read. -/
theorem run_loadAt (hT : TyOK P C.Γ) {T b off : Nat} {cs : Array Value} {T' : TypeId} {fr : Nat × Nat} (hb : w.heap[b]? = some (.cells cs T' fr)) {vs : List Value} (hlen : vs.length = (C.Γ T).size) (hv : ∀ j v, vs[j]? = some v → cs[off + j]? = some v) :
    ((C.Γ T).isAgg = true → (Instr.loadAt T (.pointer (some ⟨b, off, none⟩))).run P w = .ok (.agg vs.toArray) w) ∧
    ((C.Γ T).isAgg = false → ∀ v, vs = [v] → (Instr.loadAt T (.pointer (some ⟨b, off, none⟩))).run P w = .ok v w) := by
  constructor
  · intro ha
    have hF := hT.of_agg ha
    have hl := run_loadCells_of (P := P) (off := off) hb hv
    rw [hlen] at hl
    simp [Instr.loadAt, Instr.sureAddr, loadVar, hF.run_isAgg, hF.run_sizeOf, ha, hl]
  · intro ha v hvs
    subst hvs
    have hF := hT.of_pos (T := T) (by rw [← hlen]; simp)
    have h0 := hv 0 v rfl
    simp at h0
    simp [Instr.loadAt, Instr.sureAddr, loadVar, hF.run_isAgg, ha, cell?_of hb, h0]
theorem load_of_cells (hT : TyOK P C.Γ) {T c : Nat} {r : List TV} {k : AV → Rd} (hev : (partOf C T r c k).ev f ws) {b off : Nat} {cs : Array Value} {T' : TypeId} {fr : Nat × Nat} (hb : w.heap[b]? = some (.cells cs T' fr)) (hc : CellsAt h cs off r) :
    ∃ y v', (k y).ev f ws ∧ (Instr.loadAt T (.pointer (some ⟨b, off + c, none⟩))).run P w = .ok v' w ∧ SimR h β y v' := by
  obtain ⟨l, h1, h2, h3⟩ := partOf_ev hev
  obtain ⟨vs, e1, e2, e3⟩ := cells_vals (β := β) hc h2
  obtain ⟨r1, r2⟩ := run_loadAt (w := w) hT (T := T) hb (by rw [e1, h1]) e2
  rcases h3 with ⟨ha, hk⟩ | ⟨ha, x, rfl, hk⟩
  · exact ⟨_, _, hk, r1 ha, vs.toArray, rfl, by simpa using e3⟩
  · match vs, e1, e3, r2 with
    | [v], _, e3, r2 => exact ⟨_, _, hk, r2 ha v rfl, e3.1⟩
    | [], e1, _, _ => simp at e1
    | _ :: _ :: _, e1, _, _ => simp at e1
theorem simL_cells {n : Nm} {cs : Array Value} {sz : Nat} (hsz : cs.size = sz) (hc : ∀ c, c < sz → isDef (f (.cell n c)) = true → ∃ v, cs[c]? = some v ∧ SimC h β (f (.cell n c)) v) :
    ∀ {m c : Nat}, c + m ≤ sz → noSkip ((List.range m).map fun j => f (.cell n (c + j))) = true → SimL h β ((List.range m).map fun j => f (.cell n (c + j))) ((cs.toList.drop c).take m)
  | 0, c, _, _ => by simp [SimL]
  | m + 1, c, hm, hd => by
    have hlt : c < cs.toList.length := by simp; omega
    rw [List.range_succ_eq_map, List.map_cons, List.map_map] at hd ⊢
    rw [List.drop_eq_getElem_cons hlt, List.take_succ_cons]
    have hrest : noSkip ((List.range m).map fun j => f (.cell n (c + 1 + j))) = true := by
      have : noSkip (List.map ((fun j => f (.cell n (c + j))) ∘ Nat.succ) (List.range m)) = true := by
        simp only [Nat.add_zero] at hd
        cases hx : f (.cell n c) <;> rw [hx] at hd <;> simp [noSkip] at hd <;> exact hd
      simpa [Function.comp_def, Nat.add_assoc, Nat.add_comm 1] using this
    refine ⟨?_, ?_⟩
    · simp only [Nat.add_zero]
      cases hx : isDef (f (.cell n c)) with
      | true =>
        obtain ⟨v, h1, h2⟩ := hc c (by omega) hx
        have : cs.toList[c] = v := by rw [Array.getElem?_eq_getElem (by simpa using hlt)] at h1; simpa using h1
        rw [this]; exact h2
      | false =>
        cases hy : f (.cell n c) <;> rw [hy] at hx <;> simp [isDef] at hx
        · trivial
        · simp only [Nat.add_zero, hy, noSkip] at hd; cases hd
    · have := simL_cells hsz hc (m := m) (c := c + 1) (by omega) hrest
      simpa [Function.comp_def, Nat.add_assoc, Nat.add_comm 1] using this
theorem aload_ok (hT : TyOK P C.Γ) {T : Nat} {x : AV} {k : AV → Rd} (hev : (aload C T x k).ev f ws) (hs : Sim C.G E f h β a w) {v : Value} (hv : SimR h β x v) :
    ∃ y v', (k y).ev f ws ∧ (Instr.loadAt T v).run P w = .ok v' w ∧ SimR h β y v' := by
  cases x with
  | ptr n c =>
    simp only [aload, Rd.ev] at hev
    split at hev <;> try exact (fail_ev.1 hev).elim
    rename_i sz hl
    have hb := Nat.le_of_ble_eq_true (bif_c hev)
    replace hev := getCells_ev (bif_t hev)
    obtain ⟨b, sz', q1, rfl⟩ := hv
    obtain ⟨b', e1, cs, T', r1, r2, r3, r4⟩ := hs.boxes n sz hl
    rw [q1] at e1; simp only [BI.box.injEq] at e1; obtain ⟨rfl, rfl⟩ := e1
    have hval : ∀ j v, ((cs.toList.drop c).take (C.Γ T).size)[j]? = some v → cs[c + j]? = some v := fun j v hj => by
      rw [List.getElem?_take] at hj
      split at hj
      · rw [List.getElem?_drop] at hj; simpa using hj
      · cases hj
    obtain ⟨l1, l2⟩ := run_loadAt (w := w) hT (T := T) r1 (off := c) (vs := (cs.toList.drop c).take (C.Γ T).size) (by simp; omega) hval
    rcases bif_ev.1 hev with ⟨ha, hev1⟩ | ⟨ha, hev1⟩
    · exact ⟨.agg _, _, bif_t hev1, l1 ha, _, rfl, by simpa using simL_cells r2 r4 hb (bif_c hev1)⟩
    · clear hev
      split at hev1
      · rename_i y hy
        have h1 : (C.Γ T).size = 1 := by have := congrArg List.length hy; simpa using this
        rw [h1] at hy l2
        simp at hy; subst hy
        obtain ⟨u, hu, hsim⟩ := r4 c (by omega) (bif_c hev1)
        have hlt : c < cs.toList.length := by simp; omega
        have hl1 : (cs.toList.drop c).take 1 = [u] := by
          rw [List.drop_eq_getElem_cons hlt]; simp
          rw [Array.getElem?_eq_getElem (by simpa using hlt)] at hu; simpa using hu
        exact ⟨_, u, bif_t hev1, l2 ha u hl1, simR_of_C hsim⟩
      · exact (fail_ev.1 hev1).elim
  | eptr n k' i c =>
    simp only [aload, Rd.ev] at hev
    split at hev <;> try exact (fail_ev.1 hev).elim
    rename_i fr hl
    simp only [Rd.ev] at hev
    split at hev <;> try exact (fail_ev.1 hev).elim
    rename_i k'' rows hr
    obtain ⟨r, hr1, hev⟩ := hev
    obtain ⟨b, sz, len, q1, rfl⟩ := hv
    obtain ⟨b', sz', k3, rows', e1, e2, e3⟩ := hs.rows n fr hl
    rw [hr] at e2; simp only [AV.rowc.injEq] at e2; obtain ⟨rfl, rfl⟩ := e2
    rw [q1] at e1; simp only [BI.row.injEq] at e1; obtain ⟨rfl, rfl, rfl, rfl⟩ := e1
    have : ∃ cs T' fr', w.heap[b]? = some (.cells cs T' fr') ∧ RowsAt h cs 0 k' rows := by
      cases fr with
      | true => obtain ⟨cs, T', z, p1, p2⟩ := e3; exact ⟨cs, T', z, hs.on _ _ p1, p2⟩
      | false => obtain ⟨cs, T', p1, _, _, p2⟩ := e3; exact ⟨cs, T', _, p1, p2⟩
    obtain ⟨cs, T', fr', p1, p2⟩ := this
    have hc := p2.cells hr1
    rw [Nat.zero_add] at hc
    exact load_of_cells hT hev p1 hc
  | tptr r c =>
    obtain ⟨b, off, cs, T', fr, rfl, h1, h2⟩ := hv
    exact load_of_cells hT hev (hs.on _ _ h1) h2
  | glob g i =>
    simp only [aload] at hev
    split at hev <;> try exact (fail_ev.1 hev).elim
    rename_i rows hg
    obtain ⟨r, hr1, hev⟩ := hev
    obtain ⟨cs, T', fr, h1, _, h2⟩ := hs.glob g rows hg
    have hc := (h2.cells hr1)
    have hc' : CellsAt h cs i r := by
      intro j x hj
      obtain ⟨v, p1, p2⟩ := hc j x hj
      exact ⟨v, by simpa using p1, p2.mono hs.le0⟩
    have hv : v = .pointer (some ⟨g, i, none⟩) := hv
    subst hv
    obtain ⟨y, v', p1, p2, p3⟩ := load_of_cells hT hev (hs.on _ _ (hs.le0 _ _ h1)) hc'
    exact ⟨y, v', p1, by simpa using p2, p3⟩
  | _ => exact (fail_ev.1 hev).elim
theorem ok_load (hT : TyOK P C.Γ) {o : Oper} {T : Nat} {x : Operand} (hev : (opd C 0 x fun a => aload C T a fun y => fin E.N o y []).ev f ws) (hop : o.op = .load T x) : OpOK P C.G E o f ws := by
  obtain ⟨av, h1, h2⟩ := opd_ev hev
  refine OpOK.mk fun {h β a w} hs => ?_
  obtain ⟨y, v', q1, q2, q3⟩ := aload_ok hT h1 hs (h2 hs)
  refine ⟨v', h, β, w, ?_, fin_ok q1 hs q3⟩
  simp only [execOp, hop]
  exact run_v q2

/-! ## Cells of a value -/
theorem isCell_val {x : AV} {v : Value} (hx : isCell x = true) (hv : SimC h β x v) : v.cells = #[v] ∧ v.oneCell' = true := by
  cases x with
  | t x =>
    have hv : Rep h x v := hv
    cases hv with
    | v hy => clear hx; cases v <;> first | exact ⟨rfl, rfl⟩ | (simp [scalar] at hy; done)
    | nil => exact ⟨rfl, rfl⟩
    | sl => exact ⟨rfl, rfl⟩
  | own => obtain ⟨_, _, _, _, _, rfl, _⟩ := hv; exact ⟨rfl, rfl⟩
  | part => obtain ⟨_, _, _, _, _, _, rfl, _⟩ := hv; exact ⟨rfl, rfl⟩
  | ptr => obtain ⟨_, _, _, rfl⟩ := hv; exact ⟨rfl, rfl⟩
  | eptr => obtain ⟨_, _, _, _, rfl⟩ := hv; exact ⟨rfl, rfl⟩
  | tptr => obtain ⟨_, _, _, _, _, rfl, _⟩ := hv; exact ⟨rfl, rfl⟩
  | glob => have hv : v = _ := hv; subst hv; exact ⟨rfl, rfl⟩
  | _ => cases hx
theorem simC_of_R {x : AV} {v : Value} (hx : isCell x = true) (hv : SimR h β x v) : SimC h β x v := by cases x <;> first | exact hv | cases hx
theorem boxy_cells {y : AV} {v : Value} (hy : boxy y = true) (hv : SimR h β y v) : SimL h β y.cells v.cells.toList := by
  by_cases hc : isCell y = true
  · have hv := simC_of_R hc hv
    rw [(isCell_val hc hv).1]
    have : y.cells = [y] := by cases y <;> first | rfl | cases hc
    rw [this]; exact ⟨hv, trivial⟩
  · cases y <;> first | (exact absurd hy hc) | skip
    obtain ⟨vs, rfl, hv⟩ := hv
    exact hv
theorem allCell_one : ∀ {xs : List AV} {vs : List Value}, allCell xs = true → SimL h β xs vs → ∀ v ∈ vs, v.oneCell' = true
  | [], [], _, _ => by simp
  | x :: xs, v :: vs, hx, hv => by
    simp only [allCell, Bool.and_eq_true] at hx
    intro u hu
    rcases List.mem_cons.1 hu with e | e
    · subst e; exact (isCell_val hx.1 hv.1).2
    · exact allCell_one hx.2 hv.2 u e
  | [], _ :: _, _, hv => hv.elim
  | _ :: _, [], _, hv => hv.elim
theorem boxy_of_all {y : AV} (hy : allCell y.cells = true) : boxy y = true := by
  cases y <;> first | rfl | simp [AV.cells, allCell, isCell] at hy
def RepL (h : IH) : List TV → List Value → Prop
  | [], [] => True
  | x :: xs, v :: vs => Rep h x v ∧ RepL h xs vs
  | _, _ => False
theorem RepL.length : ∀ {l : List TV} {vs : List Value}, RepL h l vs → l.length = vs.length
  | [], [], _ => rfl
  | _ :: _, _ :: _, hr => by simp [RepL.length hr.2]
  | [], _ :: _, hr => hr.elim
  | _ :: _, [], hr => hr.elim
theorem RepL.get : ∀ {l : List TV} {vs : List Value}, RepL h l vs → ∀ {j : Nat} {x : TV}, l[j]? = some x → ∃ v, vs[j]? = some v ∧ Rep h x v
  | [], [], _, j, x, hj => by simp at hj
  | _ :: _, _ :: _, hr, 0, x, hj => by simp at hj; subst hj; exact ⟨_, rfl, hr.1⟩
  | _ :: _, _ :: _, hr, j + 1, x, hj => by simpa using RepL.get hr.2 (j := j) (by simpa using hj)
  | [], _ :: _, hr, _, _, _ => hr.elim
  | _ :: _, [], hr, _, _, _ => hr.elim
theorem Rep.one {x : TV} {v : Value} (hr : Rep h x v) : v.oneCell' = true := (isCell_val (x := .t x) (β := fun _ => .none) rfl hr).2
theorem RepL.one : ∀ {l : List TV} {vs : List Value}, RepL h l vs → ∀ v ∈ vs, v.oneCell' = true
  | [], [], _ => by simp
  | _ :: _, _ :: _, hr => by
    intro u hu
    rcases List.mem_cons.1 hu with e | e
    · subst e; exact hr.1.one
    · exact RepL.one hr.2 u e
  | [], _ :: _, hr => hr.elim
  | _ :: _, [], hr => hr.elim
theorem RepL.mono {h' : IH} (hle : h.le h') : ∀ {l : List TV} {vs : List Value}, RepL h l vs → RepL h' l vs
  | [], [], _ => trivial
  | _ :: _, _ :: _, hr => ⟨hr.1.mono hle, RepL.mono hle hr.2⟩
  | [], _ :: _, hr => hr.elim
  | _ :: _, [], hr => hr.elim
theorem tree_rel {y : AV} {x : TV} {v : Value} (hr : RelC h w y v []) (ht : y.tree = some x) : Rep h x v := by
  unfold AV.tree at ht
  split at ht
  · simp at ht; subst ht; exact hr.1
  · simp at ht; subst ht
    rcases hr with ⟨_, rfl, _⟩ | ⟨b, cap, cs, T, _, q, _⟩
    · exact .nil
    · cases q
  · cases ht
theorem trees_rel : ∀ {ys : List AV} {l : List TV} {vs : List Value}, RelL h w ys vs [] → AV.trees ys = some l → RepL h l vs
  | [], l, [], _, ht => by simp [AV.trees] at ht; subst ht; trivial
  | y :: ys, l, v :: vs, hr, ht => by
    obtain ⟨b1, b2, r1, r2, e⟩ := hr
    have e := List.append_eq_nil_iff.1 e.symm
    obtain ⟨rfl, rfl⟩ := e
    simp only [AV.trees] at ht
    split at ht
    · rename_i x xs e1 e2
      simp at ht; subst ht
      exact ⟨tree_rel r1 e1, trees_rel r2 e2⟩
    · cases ht
  | [], _, _ :: _, hr, _ => hr.elim
  | _ :: _, _, [], hr, _ => hr.elim
theorem expC_ev0 {x : AV} {k : AV → List Nm → List Nm → Rd} (hev : (expC false x k).ev f ws) : ∃ y zs, (k y [] zs).ev f ws ∧ ExpC f x y [] zs := by
  cases x with
  | t x => exact ⟨_, _, hev, rfl, rfl, rfl⟩
  | own n e =>
    simp only [expC, Rd.ev] at hev
    split at hev <;> try exact (fail_ev.1 hev).elim
    rename_i fr hl
    simp only [Rd.ev] at hev
    split at hev <;> try exact (fail_ev.1 hev).elim
    rename_i k' rows hr
    simp only [Bool.and_false, cond_false] at hev
    exact ⟨_, _, hev, fr, k', rows, hl, hr, .inr ⟨rfl, rfl, rfl⟩⟩
  | part n e i len =>
    simp only [expC, Rd.ev] at hev
    split at hev <;> try exact (fail_ev.1 hev).elim
    rename_i fr hl
    simp only [Rd.ev] at hev
    split at hev <;> try exact (fail_ev.1 hev).elim
    rename_i k' rows hr
    simp only [Bool.and_false, cond_false] at hev
    exact ⟨_, _, hev, fr, k', rows, hl, hr, .inr ⟨rfl, rfl, rfl⟩⟩
  | _ => exact (fail_ev.1 hev).elim
theorem expCs_ev0 : ∀ {xs : List AV} {k : List AV → List Nm → List Nm → Rd}, (expCs false xs k).ev f ws → ∃ ys zs, (k ys [] zs).ev f ws ∧ ExpL f xs ys [] zs
  | [], k, hev => ⟨_, _, hev, rfl, rfl, rfl⟩
  | x :: xs, k, hev => by
    obtain ⟨y, z1, h1, e1⟩ := expC_ev0 hev
    obtain ⟨ys, z2, h2, e2⟩ := expCs_ev0 h1
    exact ⟨_, _, h2, _, _, _, _, _, _, e1, e2, rfl, rfl, rfl⟩
theorem ExpC.frz {x y : AV} {zs : List Nm} (he : ExpC f x y [] zs) : ∀ z ∈ zs, ∃ fr, f (.live z) = .lrow fr := by
  cases x with
  | t x => obtain ⟨_, _, rfl⟩ := he; simp
  | own n e =>
    obtain ⟨fr, k, rows, e1, _, e3⟩ := he
    rcases e3 with ⟨_, _, q, _⟩ | ⟨_, _, rfl⟩
    · cases q
    · intro z hz; simp at hz; subst hz; exact ⟨fr, e1⟩
  | part n e i len =>
    obtain ⟨fr, k, rows, e1, _, e3⟩ := he
    rcases e3 with ⟨_, _, q, _⟩ | ⟨_, _, rfl⟩
    · cases q
    · intro z hz; simp at hz; subst hz; exact ⟨fr, e1⟩
  | _ => exact he.elim
theorem ExpL.frz : ∀ {xs ys : List AV} {zs : List Nm}, ExpL f xs ys [] zs → ∀ z ∈ zs, ∃ fr, f (.live z) = .lrow fr
  | [], _, _, he => by obtain ⟨_, _, rfl⟩ := he; simp
  | x :: xs, ys, zs, he => by
    obtain ⟨y, ys', n1, n2, z1, z2, e1, e2, _, e, rfl⟩ := he
    have e := List.append_eq_nil_iff.1 e.symm
    obtain ⟨rfl, rfl⟩ := e
    intro z hz
    rcases List.mem_append.1 hz with q | q
    · exact e1.frz z q
    · exact ExpL.frz e2 z q
/-- What is handed out frozen, behind the freezing. -/
theorem frozen_rep {f1 : LF} {h1 : IH} (hs : Sim C.G E f1 h1 β a w) (hrow : ∀ n, f1 (.row n) = f (.row n)) {xs ys : List AV} {zs : List Nm} (hz : ∀ z ∈ zs, f1 (.live z) = .lrow true) (he : ExpL f xs ys [] zs) {l : List TV} (ht : AV.trees ys = some l) {vs : List Value} (hv : SimL h1 β xs vs) : RepL h1 l vs :=
  trees_rel (w := w) (relL_of hs hrow hz (by simp) he hv).1 ht
theorem frW_row (zs : List Nm) (n : Nm) : updL f (frW zs) (.row n) = f (.row n) := frW_other (fun z _ => by simp)
theorem frW_live {zs : List Nm} {n : Nm} (hn : n ∉ zs) : updL f (frW zs) (.live n) = f (.live n) := frW_other (fun z hz e => hn (by simp at e; rw [e]; exact hz))

/-! ## Writing -/
theorem run_storeAt (hT : TyOK P C.Γ) {T b off : Nat} {cs : Array Value} {T' : TypeId} (hb : w.heap[b]? = some (.cells cs T' (0, 0))) {v : Value} (hpos : 0 < (C.Γ T).size) (hlen : v.cells.toList.length = (C.Γ T).size) (h1 : ∀ u ∈ v.cells.toList, u.oneCell' = true) (hroom : off + v.cells.toList.length ≤ cs.size) :
    ∃ w', (Instr.storeAt T (.pointer (some ⟨b, off, none⟩)) v).run P w = .ok () w' ∧ Wrote w w' b (putA cs off v.cells.toList) T' := by
  have hF := hT.of_pos hpos
  obtain ⟨w', q1, q2⟩ := run_storeCells (P := P) (off := off) (i := 0) hb h1 (by simpa using hroom)
  refine ⟨w', ?_, by simpa using q2⟩
  have hne : ¬ (v.cells.size ≠ (C.Γ T).size) := by simp at hlen ⊢; exact hlen
  simp only [Instr.storeAt, Instr.sureAddr, Sem.run_bind, Sem.run_pure, Result.andThen_ok, storeVar, hF.run_sizeOf, hne, if_false, q1]
theorem RowsAt.bound {cs : Array Value} {off k : Nat} {rows : Rows} (hr : RowsAt h cs off k rows) {i : Nat} (hi : i < rows.length) (hk : 0 < k) : off + (i * k + k) ≤ cs.size := by
  obtain ⟨h1, val, h2, _⟩ := hr
  have hri : rows[i]? = some rows[i] := by simp [hi]
  have hlen := h1 rows[i] (List.getElem_mem hi)
  have hlt : k - 1 < rows[i].length := by omega
  have := h2 i (k - 1) _ _ hri (List.getElem?_eq_getElem hlt)
  obtain ⟨hlt, _⟩ := Array.getElem?_eq_some_iff.1 this
  omega
theorem splice_get {r l : List TV} {c k : Nat} (hr : r.length = k) (hl : c + l.length ≤ k) (j : Nat) : (splice r c l)[j]? = if c ≤ j ∧ j < c + l.length then l[j - c]? else r[j]? := by
  unfold splice
  have h1 : (r.take c).length = c := by simp; omega
  by_cases hj : j < c
  · rw [List.append_assoc, List.getElem?_append_left (by omega), if_neg (by omega), List.getElem?_take, if_pos hj]
  · by_cases hj2 : j < c + l.length
    · rw [if_pos ⟨by omega, hj2⟩, List.getElem?_append_left (by simp; omega), List.getElem?_append_right (by omega), h1]
    · rw [if_neg (by omega), List.getElem?_append_right (by simp; omega), List.getElem?_drop]
      simp only [List.length_append, h1]
      congr 1; omega
theorem splice_length {r l : List TV} {c k : Nat} (hr : r.length = k) (hl : c + l.length ≤ k) : (splice r c l).length = k := by simp [splice]; omega
/-- Cells of one element are written. -/
theorem RowsAt.splice {cs : Array Value} {k : Nat} {rows : Rows} (hr : RowsAt h cs 0 k rows) {i c : Nat} {r l : List TV} {vs : List Value} (hi : rows[i]? = some r) (hl : RepL h l vs) (hc : c + l.length ≤ k) (hroom : i * k + c + vs.length ≤ cs.size) :
    RowsAt h (putA cs (i * k + c) vs) 0 k (rows.set i (splice r c l)) := by
  have hlen := hl.length
  have hrk : r.length = k := hr.1 r (List.mem_of_getElem? hi)
  refine RowsAt.of_cells (fun q hq => ?_) (fun i' q hq => ?_)
  · rcases List.mem_or_eq_of_mem_set hq with e | e
    · exact hr.1 q e
    · rw [e]; exact splice_length hrk hc
  · rw [Nat.zero_add]
    intro j x hj
    rw [putA_get hroom]
    by_cases e : i = i'
    · subst e
      rw [List.getElem?_set_self (by have := List.getElem?_eq_some_iff.1 hi; exact this.1)] at hq
      simp only [Option.some.injEq] at hq; subst hq
      rw [splice_get hrk hc] at hj
      by_cases q : c ≤ j ∧ j < c + l.length
      · rw [if_pos q] at hj
        obtain ⟨v, e1, e2⟩ := hl.get hj
        rw [if_pos (by omega), show i * k + j - (i * k + c) = j - c from by omega]
        exact ⟨v, e1, e2⟩
      · rw [if_neg q] at hj
        rw [if_neg (by omega)]
        have := hr.cells hi j x hj
        simpa using this
    · rw [List.getElem?_set_ne e] at hq
      have hjk : j < k := by
        have h1 := hr.1 q (List.mem_of_getElem? hq)
        have h2 := (List.getElem?_eq_some_iff.1 hj).1
        omega
      have hne : ¬ (i * k + c ≤ i' * k + j ∧ i' * k + j < i * k + c + vs.length) := by
        rintro ⟨q1, q2⟩
        rcases Nat.lt_or_gt_of_ne e with q | q
        · have := Nat.mul_le_mul_right k (show i + 1 ≤ i' from q)
          rw [Nat.add_mul] at this; omega
        · have := Nat.mul_le_mul_right k (show i' + 1 ≤ i from q)
          rw [Nat.add_mul] at this; omega
      rw [if_neg hne]
      have := hr.cells hq j x hj
      simpa using this
theorem splice_all {r l : List TV} {k c : Nat} (hr : r.length = k) (hl : l.length = k) (hc : c + l.length ≤ k) : splice r c l = l := by
  have : c = 0 := by omega
  subst this
  simp [splice, hl, ← hr]
theorem cellsW_live (n : Nm) (xs : List AV) (c : Nat) (g : LF) (m : Nm) : updL g (cellsW n c xs) (.live m) = g (.live m) := by rw [cellsW_look]
theorem cellsW_row (n : Nm) (xs : List AV) (c : Nat) (g : LF) (m : Nm) : updL g (cellsW n c xs) (.row m) = g (.row m) := by rw [cellsW_look]
theorem cellsW_tmp (n : Nm) (xs : List AV) (c : Nat) (g : LF) (t : Nat) : updL g (cellsW n c xs) (.tmp t) = g (.tmp t) := by rw [cellsW_look]
theorem cellsW_cell (n : Nm) (xs : List AV) (c : Nat) (g : LF) (j : Nat) : updL g (cellsW n c xs) (.cell n j) = if c ≤ j ∧ j < c + xs.length then (xs[j - c]?).getD .undef else g (.cell n j) := by rw [cellsW_look]; simp
theorem Sim.wrote_box (hs : Sim C.G E f h β a w) {n : Nm} {b sz c : Nat} {cs : Array Value} {T : TypeId} {w' : World} (hl : f (.live n) = .lbox sz) (hb : β n = .box b sz) (hc : w.heap[b]? = some (.cells cs T (0, 0))) {xs : List AV} {vs : List Value} (hx : SimL h β xs vs) (hroom : c + vs.length ≤ sz)
    (hw : Wrote w w' b (putA cs c vs) T) : Sim C.G E (updL f (cellsW n c xs)) h β a w' := by
  obtain ⟨b', e1, cs', T', r1, r2, r3, r4⟩ := hs.boxes n sz hl
  rw [hb] at e1; simp only [BI.box.injEq, and_true] at e1; subst e1
  rw [hc] at r1; simp only [Option.some.injEq, Obj.cells.injEq, and_true] at r1
  obtain ⟨rfl, rfl⟩ := r1
  have hlen := hx.length
  refine hs.rewrite (n := n) (b := b) (.inr ⟨sz, hl, sz, hb⟩) hc (cs' := putA cs c vs) putA_size hw.os hw.tape hw.output hw.size hw.other hw.here (cellsW_live n xs c f) (fun m _ => cellsW_row n xs c f m) (fun m j hm => by rw [cellsW_look]; simp [hm]) (cellsW_tmp n xs c f) (fun t => by rw [cellsW_look]) ?_ ?_
  · intro sz' k len q; rw [hl] at q; cases q
  · intro sz' q1 q2
    rw [hb] at q2; simp only [BI.box.injEq, true_and] at q2; subst q2
    refine ⟨by rw [putA_size, r2], r3, fun j hj hd => ?_⟩
    rw [cellsW_cell] at hd ⊢
    rw [putA_get (by omega)]
    by_cases q : c ≤ j ∧ j < c + xs.length
    · rw [if_pos q] at hd ⊢
      rw [if_pos ⟨q.1, by omega⟩]
      cases hxj : xs[j - c]? with
      | none => simp [hxj, isDef] at hd
      | some x =>
        obtain ⟨v, p1, p2⟩ := hx.get hxj
        exact ⟨v, p1, by simpa [hxj] using p2⟩
    · rw [if_neg q] at hd ⊢
      rw [if_neg (by omega)]
      exact r4 j hj hd
theorem Sim.wrote_row (hs : Sim C.G E f h β a w) {n : Nm} {b sz k len : Nat} {rows : Rows} {cs cs' : Array Value} {T : TypeId} {w' : World} (hl : f (.live n) = .lrow false) (hb : β n = .row (some b) sz k len) (hc : w.heap[b]? = some (.cells cs T (0, 0))) (hsz : cs'.size = cs.size) (hrl : rows.length = len) (hr : RowsAt h cs' 0 k rows)
    (hw : Wrote w w' b cs' T) : Sim C.G E (upd f (.row n) (.rowc k rows)) h β a w' := by
  have hown : OwnB f β n b := .inl ⟨hl, sz, k, len, hb⟩
  obtain ⟨b', sz', k', rows', e1, e2, e3⟩ := hs.rows n false hl
  rw [hb] at e1; simp only [BI.row.injEq] at e1; obtain ⟨rfl, rfl, rfl, rfl⟩ := e1
  obtain ⟨cs0, T0, r1, r2, r3, _⟩ := e3
  rw [hc] at r1; simp only [Option.some.injEq, Obj.cells.injEq, and_true] at r1
  obtain ⟨rfl, rfl⟩ := r1
  refine hs.rewrite (n := n) (b := b) hown hc hsz hw.os hw.tape hw.output hw.size hw.other hw.here (fun m => by simp [upd]) (fun m hm => by simp [upd, hm]) (fun m c _ => by simp [upd]) (fun t => by simp [upd]) (fun t => by simp [upd]) ?_ ?_
  · intro sz' k' len' _ q
    rw [hb] at q; simp only [BI.row.injEq, true_and] at q; obtain ⟨rfl, rfl, rfl⟩ := q
    exact ⟨rows, by simp [upd], hrl, by rw [hsz, r2], r3, hr⟩
  · intro sz' q; rw [hl] at q; cases q
end
end Go.Proofs.YtaklcemgpinleaaDoor
