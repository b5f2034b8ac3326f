/- Each operation does to a fitting state what the layer says: new memory, lengths. -/
import Derived.Test.YtaklcemgpinleaaDoorCr10
namespace Go.Proofs.YtaklcemgpinleaaDoor
open Go
set_option linter.unusedSimpArgs false
set_option linter.unusedVariables false
set_option linter.unnecessarySimpa false
set_option linter.unusedSectionVars false

section
variable {f : LF} {ws : Ws} {C : Cx} {P : Program} {E : Env} {h : IH} {β : BM} {a : Act} {w : World}
theorem heap_lt {b : Nat} {x : Obj} (hb : w.heap[b]? = some x) : b < w.heap.size := (Array.getElem?_eq_some_iff.1 hb).1
theorem Sim.own_lt {G : Nat → Option Rows} (hs : Sim G E f h β a w) {n : Nm} {b : Nat} (ho : OwnB f β n b) : b < w.heap.size := by
  rcases ho with ⟨q, sz, k, len, e⟩ | ⟨s, q, sz, e⟩
  · obtain ⟨b', sz', k', rows, e1, _, e3⟩ := hs.rows n false q
    rw [e] at e1; simp only [BI.row.injEq] at e1; obtain ⟨rfl, _⟩ := e1
    obtain ⟨cs, T, r, _⟩ := e3
    exact heap_lt r
  · obtain ⟨b', e1, cs, T, r, _⟩ := hs.boxes n s q
    rw [e] at e1; simp only [BI.box.injEq] at e1; obtain ⟨rfl, _⟩ := e1
    exact heap_lt r
theorem Sim.new_loose {G : Nat → Option Rows} (hs : Sim G E f h β a w) : Loose E f β h w.heap.size := by
  refine ⟨?_, fun m ho => by have := hs.own_lt ho; omega, .inr hs.fr.size⟩
  cases hq : h w.heap.size with
  | none => rfl
  | some o => have := heap_lt (hs.on _ _ hq); omega
theorem alloc_here (w : World) (o : Obj) : (w.alloc o).heap[w.heap.size]? = some o := by
  show (w.heap.push o)[w.heap.size]? = _
  simp
theorem zero_of {T : Nat} (hF : Facts P C.Γ T) (hz : isDef (C.Γ T).zero = true) : ∃ i z, P.info? T = some i ∧ i.zero = some z ∧ zeroL (C.Γ T).zero.cells z.cells.toList = true ∧ (C.Γ T).zero.cells.length = (C.Γ T).size ∧ i.size = (C.Γ T).size ∧ i.bytes = (C.Γ T).bytes ∧ z.cells.size = (C.Γ T).size := by
  have hne : (C.Γ T).zero ≠ .undef := fun e => by rw [e] at hz; cases hz
  obtain ⟨i, z, h1, h2, h3, h4, _⟩ := hF.zero hne
  obtain ⟨i', d, g1, _, g3, g4, _⟩ := hF.main
  rw [h1] at g1; simp at g1; subst g1
  refine ⟨i, z, h1, h2, h3, h4, g3, g4, ?_⟩
  have : ∀ {xs : List AV} {vs : List Value}, zeroL xs vs = true → xs.length = vs.length := by
    intro xs
    induction xs with
    | nil => intro vs hv; cases vs with
      | nil => rfl
      | cons _ _ => simp [zeroL] at hv
    | cons x xs ih => intro vs hv; cases vs with
      | nil => simp [zeroL] at hv
      | cons v vs => simp only [zeroL, Bool.and_eq_true] at hv; simp [ih hv.2]
  have := this h3
  simp at this; omega
theorem ne_dflt_of_zero {T : Nat} (hz : isDef (C.Γ T).zero = true) : C.Γ T ≠ dfltTI := fun e => by rw [e] at hz; cases hz
theorem ok_alloc (hT : TyOK P C.Γ) {o : Oper} {me : Nm} {T : Nat} (hev : (bif isDef (C.Γ T).zero then fresh (fin E.N o (impT me (.box (C.Γ T).zero.cells)).1 (impT me (.box (C.Γ T).zero.cells)).2) (impT me (.box (C.Γ T).zero.cells)).2 else .fail).ev f ws) (hop : o.op = .alloc T) : OpOK P C.G E o f ws := by
  have hz := bif_c hev
  obtain ⟨hev, hfr⟩ := fresh_ev (bif_t hev)
  obtain ⟨i, z, z1, z2, z3, z4, z5, z6, z7⟩ := zero_of (hT.facts (ne_dflt_of_zero hz)) hz
  apply OpOK.mk
  intro h β a w hs
  have s1 := hs.alloc (.cells z.cells T)
  obtain ⟨β', t, sv⟩ := impT_ok (n := me) (x := .box (C.Γ T).zero.cells) (v := .pointer (some ⟨w.heap.size, 0, none⟩)) (bs := [w.heap.size]) s1
    ⟨_, z.cells, T, [], rfl, alloc_here w _, zeroL_rel z3 h _, rfl⟩ (by simp) (fun b hb => by simp at hb; subst hb; exact hs.new_loose) hfr
  refine ⟨_, h, β', _, ?_, fin_ok hev t.sim sv⟩
  simp only [execOp, hop]
  refine run_v ?_
  simp [Instr.alloc, zeroValue, typeInfo, z1, z2, newVar, newRow]
theorem ok_box {o : Oper} {me : Nm} {T : Nat} {x : Operand} (hev : (opdI C (.sub me 1000001) T x fun a ws => bif boxy a then
      fresh (fin E.N o (.ptr me 0) (ws ++ ((.live me, .lbox a.cells.length) :: cellsW me 0 a.cells))) [(.live me, .undef)] else .fail).ev f ws) (hop : o.op = .box T x) : OpOK P C.G E o f ws := by
  obtain ⟨av, ws0, hev, _, h3, h4⟩ := opdI_ev hev
  have hb := bif_c hev
  obtain ⟨hev, hfr⟩ := fresh_ev (bif_t hev)
  have hme := hfr me .undef (by simp)
  apply OpOK.mk
  intro h β a w hs
  obtain ⟨β', t, sv⟩ := h4 hs
  have hcs := boxy_cells hb sv
  have s1 := t.sim.alloc (.cells (a.eval x).cells T)
  have hme' : updL f ws0 (.live me) = .undef := by
    rw [updL_other (fun y hy e => ?_), hme]
    obtain ⟨p, z⟩ := y
    simp only at e; subst e
    rcases (h3 me z hy).2 with e | ⟨c, e⟩
    · exact Nm.sub_ne _ _ e.symm
    · have : ∀ (n : Nm) c d, n ≠ .sub (.sub n c) d := by
        intro n
        induction n with
        | sub m e ih => intro c d q; simp only [Nm.sub.injEq] at q; exact ih _ _ q.1
        | _ => intro c d q; cases q
      exact this _ _ _ e
  have hl := t.sim.new_loose
  have hlen := hcs.length
  simp only [Array.length_toList] at hlen
  have s2 := s1.adoptBox (n := me) (b := w.heap.size) (cs := (a.eval x).cells) (T := T) (xs := av.cells) (.inl hme') (alloc_here w _) hl.1 hl.2.1 hl.2.2 hcs
    (f' := updL f (ws0 ++ ((.live me, .lbox av.cells.length) :: cellsW me 0 av.cells))) (by
      rw [updL_append]; simp only [updL]; rw [cellsW_look]; simp [upd, hlen]) (fun c hc => by
      left
      rw [updL_append]; simp only [updL]; rw [cellsW_cell]
      simp only [Nat.zero_le, Nat.zero_add, true_and, Nat.sub_zero]
      rw [if_pos (by omega)]) (fun p h1 h2 => by
      rw [updL_append]; simp only [updL]; rw [cellsW_look]
      cases p with
      | cell m j => simp only; rw [if_neg (fun q => h2 j (by rw [q.1]))]; simp [upd]
      | _ => simp [upd] at h1 ⊢ <;> (intro e; exact absurd e h1))
  refine ⟨.pointer (some ⟨w.heap.size, 0, none⟩), h, _, _, ?_, fin_ok hev s2 ⟨w.heap.size, (a.eval x).cells.size, by simp [BM.set], rfl⟩⟩
  simp only [execOp, hop]
  refine run_v ?_
  simp [Instr.box, newVar, newRow]

/-! ## Lengths -/
theorem run_builtin {o : Oper} {b : Builtin} {args : Array Operand} {argTypes : Array TypeId} (hop : o.op = .call { callee := .builtin b, args, argTypes }) :
    ∃ consts, (execOp a.eval o).run P w = (builtin b argTypes o.type consts (args.map a.eval)).run P w := by
  refine ⟨args.map fun | .const _ => true | _ => false, ?_⟩
  simp only [execOp, hop, resolve, invoke, Sem.run_bind, Sem.run_pure, Result.andThen_ok]
  rfl
theorem lenOf_ok (hT : TyOK P C.Γ) {T ty : Nat} {x : AV} {k : Nat → Rd} (hev : (lenOf C T x k).ev f ws) (hs : Sim C.G E f h β a w) {v : Value} (hv : SimR h β x v) :
    ∃ n, (k n).ev f ws ∧ (Builtin.len_ #[T] ty #[v]).run P w = .ok (.int .i64 n) w := by
  have hsl : isSl C T = true → ∀ {base : Option Addr} {n c : Nat}, v = .slice base n c → (Builtin.len_ #[T] ty #[v]).run P w = .ok (.int .i64 n) w := by
    intro hk base n c e
    obtain ⟨e', hu⟩ := isSl_ty hT hk
    simp [Builtin.len_, run_underlying hu, e, goInt]
  unfold lenOf at hev
  split at hev
  · rename_i s
    have hS := isS_ty hT (bif_c hev)
    have := (simV hv).1; subst this
    exact ⟨_, bif_t hev, by simp [Builtin.len_, run_underlying hS, goInt]⟩
  · rename_i k' rows
    have hv : Rep h (.sl k' rows) v := hv
    rcases hv.sl_inv with ⟨rfl, e⟩ | ⟨b, off, cap, cs, T', fr, e, _⟩
    · exact ⟨_, bif_t hev, hsl (bif_c hev) e⟩
    · exact ⟨_, bif_t hev, hsl (bif_c hev) e⟩
  · rename_i n k'
    have hk := bif_c hev
    replace hev := get_ev (bif_t hev)
    split at hev <;> try exact (fail_ev.1 hev).elim
    rename_i fr hl
    replace hev := get_ev hev
    split at hev <;> try exact (fail_ev.1 hev).elim
    rename_i k2 rows hr
    obtain ⟨b, sz, len, cap, p1, e, p3, p4, p5⟩ := hv
    obtain ⟨b', sz', k3, rows', e1, e2, _⟩ := hs.rows n fr hl
    rw [hr] at e2; simp only [AV.rowc.injEq] at e2; obtain ⟨rfl, rfl⟩ := e2
    rw [p1] at e1; simp only [BI.row.injEq] at e1; obtain ⟨_, _, _, e3⟩ := e1
    exact ⟨_, hev, by rw [← e3]; exact hsl hk e⟩
  · rename_i n k' i m
    have hk := bif_c hev
    replace hev := get_ev (bif_t hev)
    split at hev <;> try exact (fail_ev.1 hev).elim
    obtain ⟨b, sz, len, cap, off, p1, e, _⟩ := hv
    exact ⟨_, hev, hsl hk e⟩
  · exact (fail_ev.1 hev).elim
/-! ## Structs -/
/-- a cell, in a border's words or in the layer's -/
def Mix (h : IH) (β : BM) (w : World) (x : AV) (v : Value) : Prop := SimC h β x v ∨ RelC h w x v []
def MixL (h : IH) (β : BM) (w : World) : List AV → List Value → Prop
  | [], [] => True
  | x :: xs, v :: vs => Mix h β w x v ∧ MixL h β w xs vs
  | _, _ => False
theorem MixL.length : ∀ {xs : List AV} {vs : List Value}, MixL h β w xs vs → xs.length = vs.length
  | [], [], _ => rfl
  | _ :: _, _ :: _, hs => by simp [MixL.length hs.2]
  | [], _ :: _, hs => hs.elim
  | _ :: _, [], hs => hs.elim
theorem MixL.of_sim : ∀ {xs : List AV} {vs : List Value}, SimL h β xs vs → MixL h β w xs vs
  | [], [], _ => trivial
  | _ :: _, _ :: _, hs => ⟨.inl hs.1, MixL.of_sim hs.2⟩
  | [], _ :: _, hs => hs.elim
  | _ :: _, [], hs => hs.elim
theorem MixL.of_rel : ∀ {xs : List AV} {vs : List Value}, RelL h w xs vs [] → MixL h β w xs vs
  | [], [], _ => trivial
  | _ :: _, _ :: _, hs => by
    obtain ⟨b1, b2, r1, r2, e⟩ := hs
    obtain ⟨rfl, rfl⟩ := List.append_eq_nil_iff.1 e.symm
    exact ⟨.inr r1, MixL.of_rel r2⟩
  | [], _ :: _, hs => hs.elim
  | _ :: _, [], hs => hs.elim
theorem MixL.set : ∀ {xs : List AV} {vs : List Value}, MixL h β w xs vs → ∀ {x : AV} {v : Value}, Mix h β w x v → ∀ j, MixL h β w (xs.set j x) (vs.set j v)
  | [], [], _, _, _, _, _ => trivial
  | _ :: _, _ :: _, hs, _, _, hm, 0 => ⟨hm, hs.2⟩
  | _ :: _, _ :: _, hs, _, _, hm, j + 1 => ⟨hs.1, MixL.set hs.2 hm j⟩
  | [], _ :: _, hs, _, _, _, _ => hs.elim
  | _ :: _, [], hs, _, _, _, _ => hs.elim
theorem putCells_mix : ∀ {as : List AV} {us : List Value}, SimL h β as us → ∀ {xs : List AV} {cs : Array Value} {off : Nat}, MixL h β w xs cs.toList → MixL h β w (putCells xs off as) (putA cs off us).toList
  | [], [], _, _, _, _, hm => hm
  | _ :: _, _ :: _, hs, xs, cs, off, hm => by
    simp only [putCells, putA]
    refine putCells_mix hs.2 ?_
    rw [Array.toList_setIfInBounds]
    exact hm.set (.inl hs.1) off
  | [], _ :: _, hs, _, _, _, _ => hs.elim
  | _ :: _, [], hs, _, _, _, _ => hs.elim
theorem impC_mix {n : Nm} {x : AV} {v : Value} (hs : Sim C.G E f h β a w) (hr : Mix h β w x v) (hf : ∀ m y, (Pl.live m, y) ∈ (impC n x).2 → f (.live m) = .undef) :
    ∃ β', Took C.G E f h β a w (updL f (impC n x).2) β' [] ∧ SimC h β' (impC n x).1 v := by
  rcases hr with hr | hr
  · cases x <;> first | exact ⟨β, Took.refl hs, hr⟩ | exact hr.elim
  · exact impC_ok hs hr (by simp) hf
theorem impCs_mix {n : Nm} : ∀ {xs : List AV} {vs : List Value} {c : Nat} {f : LF} {β : BM}, Sim C.G E f h β a w → MixL h β w xs vs →
    (∀ m y, (Pl.live m, y) ∈ (impCs n c xs).2 → f (.live m) = .undef) → ∃ β', Took C.G E f h β a w (updL f (impCs n c xs).2) β' [] ∧ SimL h β' (impCs n c xs).1 vs
  | [], [], _, f, β, hs, _, _ => ⟨β, Took.refl hs, trivial⟩
  | x :: xs, v :: vs, c, f, β, hs, hr, hf => by
    obtain ⟨β1, t1, s1⟩ := impC_mix (n := .sub n c) hs hr.1 (fun m y hm => hf m y (by simp [impCs, hm]))
    have hmono : MixL h β1 w xs vs := by
      have : ∀ {xs : List AV} {vs : List Value}, MixL h β w xs vs → MixL h β1 w xs vs := by
        intro xs
        induction xs with
        | nil => intro vs hv; cases vs <;> exact hv
        | cons x xs ih => intro vs hv; cases vs with
          | nil => exact hv
          | cons v vs => exact ⟨hv.1.imp (fun q => q.mono (IH.le_refl h) t1.le) id, ih hv.2⟩
      exact this hr.2
    obtain ⟨β2, t2, s2⟩ := impCs_mix (n := n) (c := c + 1) t1.sim hmono (fun m y hm => by
      rw [updL_other (fun x hx => ?_)]
      · exact hf m y (by simp [impCs, hm])
      · obtain ⟨c', q1, q2⟩ := impCs_names hm
        obtain ⟨p, z⟩ := x
        intro e
        simp only at e; subst e
        rcases impC_names hx with q | q <;> rcases q2 with q2 | q2 <;> simp_all <;> omega)
    refine ⟨β2, ?_, ?_⟩
    · simp only [impCs]; rw [updL_append]; exact t1.trans t2
    · exact ⟨s1.mono (IH.le_refl h) t2.le, s2⟩
  | [], _ :: _, _, _, _, _, hr, _ => hr.elim
  | _ :: _, [], _, _, _, _, hr, _ => hr.elim
theorem fold_putA (cs : Array Value) (off : Nat) (us : Array Value) : us.zipIdx.foldl (fun cs (x : Value × Nat) => cs.setIfInBounds (off + x.2) x.1) cs = putA cs off us.toList := by
  rw [← Array.foldl_toList, Array.toList_zipIdx]
  generalize us.toList = l
  have : ∀ (l : List Value) (k : Nat) (cs : Array Value), List.foldl (fun cs (x : Value × Nat) => cs.setIfInBounds (off + x.2) x.1) cs (l.zipIdx k) = putA cs (off + k) l := by
    intro l
    induction l with
    | nil => intro k cs; rfl
    | cons v l ih => intro k cs; simp only [List.zipIdx_cons, List.foldl_cons, putA]; rw [ih]; rfl
  exact this l 0 cs
theorem fill_step {place : Nat → Option (Nat × Nat)} {cells : Array Value} {i off size : Nat} {v : Value} {rest : List (Nat × Value)} (hp : place i = some (off, size)) (h1 : v.cells.size = size) (h2 : off + v.cells.size ≤ cells.size) :
    Instr.fill place cells ((i, v) :: rest) = Instr.fill place (putA cells off v.cells.toList) rest := by
  simp only [Instr.fill, hp]
  rw [if_neg (by simp; omega), fold_putA]
end
end Go.Proofs.YtaklcemgpinleaaDoor
