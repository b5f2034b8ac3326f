/- Values at a call's border; how they are taken in under names, and how what stands under names is handed out: lemmas of the layer, on no condition. -/
import Derived.Test.YtaklcemgpinleaaDoorCr2
namespace Go.Proofs.YtaklcemgpinleaaDoor
open Go
set_option linter.unusedSimpArgs false
set_option linter.unusedVariables false
set_option linter.unnecessarySimpa false
set_option linter.unusedSectionVars false

/-- At a border: what the value is, and the blocks that come with it. -/
def RelC (h : IH) (w : World) : AV → Value → List Nat → Prop
  | .undef, _, bs => bs = []
  | .t x, v, bs => Rep h x v ∧ bs = []
  | .vec k rows, v, bs => (rows = [] ∧ v = .slice none 0 0 ∧ bs = []) ∨
      ∃ b cap cs T, v = .slice (some ⟨b, 0, none⟩) rows.length cap ∧ bs = [b] ∧ w.heap[b]? = some (.cells cs T (0, 0)) ∧ rows.length ≤ cap ∧ cap * k ≤ cs.size ∧ RowsAt h cs 0 k rows
  | .vecp k rows i m, v, bs => (rows = [] ∧ i = 0 ∧ m = 0 ∧ v = .slice none 0 0 ∧ bs = []) ∨
      ∃ b off cap cs T, v = .slice (some ⟨b, off, none⟩) m cap ∧ bs = [b] ∧ w.heap[b]? = some (.cells cs T (0, 0)) ∧ i + m ≤ rows.length ∧ m ≤ cap ∧ (m = 0 ∨ off = i * k) ∧ (i = 0 → off = 0) ∧ off + cap * k ≤ cs.size ∧ RowsAt h cs 0 k rows
  | _, _, _ => False
def RelL (h : IH) (w : World) : List AV → List Value → List Nat → Prop
  | [], [], bs => bs = []
  | a :: as, v :: vs, bs => ∃ b1 b2, RelC h w a v b1 ∧ RelL h w as vs b2 ∧ bs = b1 ++ b2
  | _, _, _ => False
def RelT (h : IH) (w : World) (a : AV) (v : Value) (bs : List Nat) : Prop :=
  match a with
  | .agg cs => ∃ vs, v = .agg vs ∧ RelL h w cs vs.toList bs
  | .box cs => ∃ b vs T bs', v = .pointer (some ⟨b, 0, none⟩) ∧ w.heap[b]? = some (.cells vs T (0, 0)) ∧ RelL h w cs vs.toList bs' ∧ bs = b :: bs'
  | a => RelC h w a v bs
def RelTL (h : IH) (w : World) : List AV → List Value → List Nat → Prop
  | [], [], bs => bs = []
  | a :: as, v :: vs, bs => ∃ b1 b2, RelT h w a v b1 ∧ RelTL h w as vs b2 ∧ bs = b1 ++ b2
  | _, _, _ => False
def RelR (h : IH) (w : World) (a : AV) (v : Value) (bs : List Nat) : Prop :=
  match a with
  | .tup as => ∃ vs, v = .tuple vs ∧ RelTL h w as vs.toList bs
  | .fn f as => ∃ vs, v = .func (.func f) #[] vs ∧ RelTL h w as vs.toList bs
  | a => RelT h w a v bs
def RelA (h : IH) (w : World) : List AV → List Value → List Nat → Prop
  | [], [], bs => bs = []
  | a :: as, v :: vs, bs => ∃ b1 b2, RelR h w a v b1 ∧ RelA h w as vs b2 ∧ bs = b1 ++ b2
  | _, _, _ => False

/-- The contract of a call: from arguments at the border to a result at the border, and what the arguments have become. -/
def Has (P : Program) (f : FuncId) : Prop := ∃ fn, P.funcs[f]? = some fn ∧ (fn.name == "runtime.NumGoroutine") = false ∧ fn.body.isNone = false
def AC (P : Program) (G : Nat → Option Rows) (f : FuncId) (args : List AV) (r : AV) (outs : List AV) : Prop :=
  Has P f ∧ ∀ (w : World) (h : IH) (vs : Array Value) (bs : List Nat), GOK G h → h.on w → RelA h w args vs.toList bs → bs.Nodup → (∀ b ∈ bs, h b = none) →
    Calls P f vs w fun e w' => ∃ cv h' rb ob, e = .returned cv ∧ h.le h' ∧ h'.on w' ∧ RelR h' w' r cv rb ∧ RelA h' w' outs vs.toList ob ∧ (rb ++ ob).Nodup ∧
      (∀ b ∈ rb ++ ob, h' b = none ∧ (b ∈ bs ∨ w.heap.size ≤ b)) ∧ (∀ b o, h' b = some o → h b = some o ∨ b ∈ bs ∨ w.heap.size ≤ b) ∧ Fr w w' bs

section
variable {G : Nat → Option Rows} {E : Env} {f : LF} {h : IH} {β : BM} {a : Act} {w : World}
theorem upd_comm_look (f : LF) (p q : Pl) (x y : AV) (hpq : p ≠ q) : upd (upd f p x) q y = upd (upd f q y) p x := by
  funext z; simp only [upd]
  by_cases h1 : z = q <;> by_cases h2 : z = p <;> simp [h1, h2]
  · subst h1; subst h2; exact absurd rfl hpq
  · subst h1; intro e; exact absurd e.symm hpq
  · subst h2; intro e; exact absurd e hpq
theorem updL_append (f : LF) : ∀ (xs ys : Ws), updL f (xs ++ ys) = updL (updL f xs) ys
  | [], _ => rfl
  | (p, a) :: xs, ys => by simp only [List.cons_append, updL]; exact updL_append _ xs ys
theorem updL_other {p : Pl} : ∀ {ws : Ws} {f : LF}, (∀ x ∈ ws, x.1 ≠ p) → updL f ws p = f p
  | [], _, _ => rfl
  | (q, a) :: ws, f, hx => by
    simp only [updL]
    rw [updL_other (fun x hm => hx x (List.mem_cons_of_mem _ hm)), upd_other _ _ (fun e => hx (q, a) List.mem_cons_self e.symm)]
theorem fresh_ev {k : Rd} {f : LF} {ws : Ws} : ∀ {l : Ws}, (fresh k l).ev f ws → k.ev f ws ∧ ∀ n x, (Pl.live n, x) ∈ l → f (.live n) = .undef
  | [], hv => ⟨hv, fun _ _ hm => by cases hm⟩
  | (.live n, y) :: l, hv => by
    simp only [fresh, Rd.ev] at hv
    cases hl : f (.live n) <;> simp only [hl, Rd.fail, Rd.ev, false_and] at hv
    obtain ⟨h1, h2⟩ := fresh_ev hv
    refine ⟨h1, fun m x hm => ?_⟩
    rcases List.mem_cons.1 hm with e | e
    · simp only [Prod.mk.injEq, Pl.live.injEq] at e; rw [e.1]; exact hl
    · exact h2 m x e
  | (.tmp t, y) :: l, hv => by
    simp only [fresh] at hv
    obtain ⟨h1, h2⟩ := fresh_ev hv
    exact ⟨h1, fun m x hm => by rcases List.mem_cons.1 hm with e | e; simp at e; exact h2 m x e⟩
  | (.cell n c, y) :: l, hv => by
    simp only [fresh] at hv
    obtain ⟨h1, h2⟩ := fresh_ev hv
    exact ⟨h1, fun m x hm => by rcases List.mem_cons.1 hm with e | e; simp at e; exact h2 m x e⟩
  | (.row n, y) :: l, hv => by
    simp only [fresh] at hv
    obtain ⟨h1, h2⟩ := fresh_ev hv
    exact ⟨h1, fun m x hm => by rcases List.mem_cons.1 hm with e | e; simp at e; exact h2 m x e⟩
  | (.gh n, y) :: l, hv => by
    simp only [fresh] at hv
    obtain ⟨h1, h2⟩ := fresh_ev hv
    exact ⟨h1, fun m x hm => by rcases List.mem_cons.1 hm with e | e; simp at e; exact h2 m x e⟩

/-- What may be taken in: blocks that are nobody's. -/
def Loose (E : Env) (f : LF) (β : BM) (h : IH) (b : Nat) : Prop := h b = none ∧ (∀ m, ¬ OwnB f β m b) ∧ (b ∈ E.bs ∨ E.w0.heap.size ≤ b)
/-- The outcome of taking in. -/
structure Took (G : Nat → Option Rows) (E : Env) (f : LF) (h : IH) (β : BM) (a : Act) (w : World) (f' : LF) (β' : BM) (bs : List Nat) : Prop where
  sim : Sim G E f' h β' a w
  le : BM.le β β'
  own : ∀ m b, OwnB f' β' m b → OwnB f β m b ∨ b ∈ bs
theorem Took.refl (hs : Sim G E f h β a w) : Took G E f h β a w f β [] := ⟨hs, BM.le_refl β, fun _ _ => .inl⟩
theorem Took.trans {f1 f2 : LF} {β1 β2 : BM} {b1 b2 : List Nat} (t1 : Took G E f h β a w f1 β1 b1) (t2 : Took G E f1 h β1 a w f2 β2 b2) : Took G E f h β a w f2 β2 (b1 ++ b2) :=
  ⟨t2.sim, fun n hn => by rw [t2.le n (by rw [t1.le n hn]; exact hn), t1.le n hn], fun m b ho => (t2.own m b ho).elim (fun ho => (t1.own m b ho).imp id (by simp_all)) (fun hb => .inr (by simp [hb]))⟩
theorem Loose.after {f1 : LF} {β1 : BM} {b1 : List Nat} {b : Nat} (hl : Loose E f β h b) (t : Took G E f h β a w f1 β1 b1) (hb : b ∉ b1) : Loose E f1 β1 h b :=
  ⟨hl.1, fun m ho => (t.own m b ho).elim (hl.2.1 m) hb, hl.2.2⟩
theorem impC_ok {n : Nm} {x : AV} {v : Value} {bs : List Nat} (hs : Sim G E f h β a w) (hr : RelC h w x v bs) (hb : ∀ b ∈ bs, Loose E f β h b) (hf : ∀ m y, (Pl.live m, y) ∈ (impC n x).2 → f (.live m) = .undef) :
    ∃ β', Took G E f h β a w (updL f (impC n x).2) β' bs ∧ SimC h β' (impC n x).1 v := by
  cases x with
  | undef => exact ⟨β, by rw [show bs = [] from hr]; exact Took.refl hs, trivial⟩
  | t x => exact ⟨β, by rw [hr.2]; exact Took.refl hs, hr.1⟩
  | vec k rows =>
    have hn := hf n _ List.mem_cons_self
    rcases hr with ⟨rfl, rfl, rfl⟩ | ⟨b, cap, cs, T, rfl, rfl, h1, h2, h3, h4⟩
    · refine ⟨_, ⟨hs.adoptNil (.inl hn), BM.le_set (hs.free n hn), fun m b ho => ?_⟩, ?_⟩
      · by_cases e : m = n
        · subst e
          rcases ho with ⟨_, _, _, _, q⟩ | ⟨_, q, _⟩
          · simp [BM.set] at q
          · simp [upd, impC, updL] at q
        · exact .inl (ho.upd_of e (by simp [upd, impC, updL, e]))
      · exact ⟨none, 0, 0, 0, by simp [BM.set], rfl, Nat.le_refl _, by simp, fun _ => rfl⟩
    · obtain ⟨l1, l2, l3⟩ := hb b (by simp)
      refine ⟨_, ⟨hs.adoptRow (.inl hn) h1 rfl l1 l2 l3 h4, BM.le_set (hs.free n hn), fun m x ho => ?_⟩, ?_⟩
      · by_cases e : m = n
        · subst e
          rcases ho with ⟨_, _, _, _, q⟩ | ⟨_, q, _⟩
          · simp [BM.set] at q; exact .inr (by simp [q.1])
          · simp [upd, impC, updL] at q
        · exact .inl (ho.upd_of e (by simp [upd, impC, updL, e]))
      · exact ⟨some b, cs.size, rows.length, cap, by simp [BM.set], rfl, h2, h3, by simp⟩
  | vecp k rows i m =>
    have hn := hf n _ List.mem_cons_self
    rcases hr with ⟨rfl, rfl, rfl, rfl, rfl⟩ | ⟨b, off, cap, cs, T, rfl, rfl, h1, h2, h3, h4, h5, h6, h7⟩
    · refine ⟨_, ⟨hs.adoptNil (.inl hn), BM.le_set (hs.free n hn), fun m b ho => ?_⟩, ?_⟩
      · by_cases e : m = n
        · subst e
          rcases ho with ⟨_, _, _, _, q⟩ | ⟨_, q, _⟩
          · simp [BM.set] at q
          · simp [upd, impC, updL] at q
        · exact .inl (ho.upd_of e (by simp [upd, impC, updL, e]))
      · exact ⟨none, 0, 0, 0, 0, by simp [BM.set], rfl, by simp, by simp, .inl rfl, fun _ => rfl, by simp, fun _ => ⟨rfl, rfl⟩⟩
    · obtain ⟨l1, l2, l3⟩ := hb b (by simp)
      refine ⟨_, ⟨hs.adoptRow (.inl hn) h1 rfl l1 l2 l3 h7, BM.le_set (hs.free n hn), fun m x ho => ?_⟩, ?_⟩
      · by_cases e : m = n
        · subst e
          rcases ho with ⟨_, _, _, _, q⟩ | ⟨_, q, _⟩
          · simp [BM.set] at q; exact .inr (by simp [q.1])
          · simp [upd, impC, updL] at q
        · exact .inl (ho.upd_of e (by simp [upd, impC, updL, e]))
      · exact ⟨some b, cs.size, rows.length, cap, off, by simp [BM.set], rfl, h2, h3, h4, h5, h6, by simp⟩
  | _ => exact hr.elim
theorem impC_names {n : Nm} {x : AV} {p : Pl} {y : AV} (hm : (p, y) ∈ (impC n x).2) : p = .live n ∨ p = .row n := by
  cases x <;> simp [impC] at hm <;> (rcases hm with ⟨rfl, _⟩ | ⟨rfl, _⟩ <;> simp)
theorem impCs_names {n : Nm} : ∀ {xs : List AV} {c : Nat} {p : Pl} {y : AV}, (p, y) ∈ (impCs n c xs).2 → ∃ c', c ≤ c' ∧ (p = .live (.sub n c') ∨ p = .row (.sub n c'))
  | [], _, _, _, hm => by simp [impCs] at hm
  | x :: xs, c, p, y, hm => by
    simp only [impCs, List.mem_append] at hm
    rcases hm with hm | hm
    · exact ⟨c, Nat.le_refl _, impC_names hm⟩
    · obtain ⟨c', h1, h2⟩ := impCs_names hm
      exact ⟨c', by omega, h2⟩
theorem nodup_append_not {b1 b2 : List Nat} (hn : (b1 ++ b2).Nodup) {b : Nat} (hb : b ∈ b2) : b ∉ b1 := fun h1 => (List.nodup_append.1 hn).2.2 b h1 b hb rfl
theorem impCs_ok {n : Nm} : ∀ {xs : List AV} {vs : List Value} {bs : List Nat} {c : Nat} {f : LF} {β : BM}, Sim G E f h β a w → RelL h w xs vs bs → bs.Nodup → (∀ b ∈ bs, Loose E f β h b) →
    (∀ m y, (Pl.live m, y) ∈ (impCs n c xs).2 → f (.live m) = .undef) → ∃ β', Took G E f h β a w (updL f (impCs n c xs).2) β' bs ∧ SimL h β' (impCs n c xs).1 vs
  | [], [], bs, _, f, β, hs, hr, _, _, _ => ⟨β, by rw [show bs = [] from hr]; exact Took.refl hs, trivial⟩
  | x :: xs, v :: vs, bs, c, f, β, hs, hr, hn, hb, hf => by
    obtain ⟨b1, b2, r1, r2, rfl⟩ := hr
    obtain ⟨β1, t1, s1⟩ := impC_ok (n := .sub n c) hs r1 (fun b hm => hb b (by simp [hm])) (fun m y hm => hf m y (by simp [impCs, hm]))
    obtain ⟨β2, t2, s2⟩ := impCs_ok (n := n) (c := c + 1) t1.sim r2 (List.nodup_append.1 hn).2.1 (fun b hm => (hb b (by simp [hm])).after t1 (nodup_append_not hn hm)) (fun m y hm => by
      rw [updL_other (fun x hx => ?_)]
      · exact hf m y (by simp [impCs, hm])
      · obtain ⟨c', q1, q2⟩ := impCs_names hm
        obtain ⟨p, z⟩ := x
        intro e
        simp only at e; subst e
        rcases impC_names hx with q | q <;> rcases q2 with q2 | q2 <;> simp_all <;> omega)
    refine ⟨β2, ?_, ?_⟩
    · simp only [impCs]; rw [updL_append]; exact t1.trans t2
    · exact ⟨s1.mono (IH.le_refl h) t2.le, s2⟩
  | [], _ :: _, _, _, _, _, _, hr, _, _, _ => hr.elim
  | _ :: _, [], _, _, _, _, _, hr, _, _, _ => hr.elim
theorem impCs_length (n : Nm) : ∀ (xs : List AV) (c : Nat), (impCs n c xs).1.length = xs.length
  | [], _ => rfl
  | _ :: xs, c => by simp [impCs, impCs_length n xs]
theorem cellsW_look (n : Nm) : ∀ (xs : List AV) (c : Nat) (f : LF) (p : Pl), updL f (cellsW n c xs) p = match p with
    | .cell m j => if m = n ∧ c ≤ j ∧ j < c + xs.length then (xs[j - c]?).getD .undef else f p
    | p => f p
  | [], c, f, p => by
    cases p with
    | cell m j => simp only [cellsW, updL, List.length_nil, Nat.add_zero]; rw [if_neg (by omega)]
    | _ => rfl
  | x :: xs, c, f, p => by
    simp only [cellsW, updL]
    rw [cellsW_look n xs (c + 1)]
    cases p with
    | cell m j =>
      simp only [List.length_cons, upd, Pl.cell.injEq]
      by_cases e : m = n ∧ j = c
      · have e2 := e.2
        have q : m = n ∧ c ≤ j ∧ j < c + (xs.length + 1) := ⟨e.1, by omega, by omega⟩
        rw [if_neg (fun q => by omega), if_pos e, if_pos q]; simp [e2]
      · by_cases q : m = n ∧ c + 1 ≤ j ∧ j < c + 1 + xs.length
        · rw [if_pos q, if_pos ⟨q.1, by omega, by omega⟩]
          obtain ⟨d, hd⟩ : ∃ d, j - c = d + 1 := ⟨j - c - 1, by omega⟩
          rw [hd, show j - (c + 1) = d from by omega]; simp
        · rw [if_neg q, if_neg e, if_neg (fun r => q ⟨r.1, by have : j ≠ c := fun h => e ⟨r.1, h⟩; omega, by omega⟩)]
    | _ => simp [upd]
theorem cellsW_no_live (n m : Nm) (z : AV) : ∀ (xs : List AV) (c : Nat), (Pl.live m, z) ∉ cellsW n c xs
  | [], _ => by simp [cellsW]
  | _ :: xs, c => by simp [cellsW, cellsW_no_live n m z xs]
theorem updL_congr {p : Pl} : ∀ {ws : Ws} (g g' : LF), g p = g' p → updL g ws p = updL g' ws p
  | [], _, _, e => e
  | (q, y) :: ws, g, g', e => updL_congr (ws := ws) _ _ (by simp [upd, e])
theorem RelL.length {h : IH} {w : World} : ∀ {xs : List AV} {vs : List Value} {bs : List Nat}, RelL h w xs vs bs → xs.length = vs.length
  | [], [], _, _ => rfl
  | _ :: _, _ :: _, _, hr => by obtain ⟨_, _, _, r2, _⟩ := hr; simp [r2.length]
  | [], _ :: _, _, hr => hr.elim
  | _ :: _, [], _, hr => hr.elim
theorem impT_names {n : Nm} {x : AV} {p : Pl} {y : AV} (hm : (p, y) ∈ (impT n x).2) : p = .live n ∨ p = .row n ∨ (∃ c, p = .cell n c) ∨ ∃ c, p = .live (.sub n c) ∨ p = .row (.sub n c) := by
  cases x with
  | agg cs => obtain ⟨c, _, q⟩ := impCs_names (by simpa [impT] using hm); exact .inr (.inr (.inr ⟨c, q⟩))
  | box cs =>
    simp only [impT, List.mem_cons, List.mem_append, Prod.mk.injEq] at hm
    rcases hm with ⟨q, _⟩ | q | q
    · exact .inl q
    · have : ∀ (xs : List AV) (c : Nat), (p, y) ∈ cellsW n c xs → ∃ c, p = .cell n c := by
        intro xs
        induction xs with
        | nil => intro c hc; simp [cellsW] at hc
        | cons x xs ih => intro c hc; simp only [cellsW, List.mem_cons, Prod.mk.injEq] at hc; rcases hc with ⟨q, _⟩ | q; exact ⟨c, q⟩; exact ih _ q
      exact .inr (.inr (.inl (this _ _ q)))
    · obtain ⟨c, _, q⟩ := impCs_names q; exact .inr (.inr (.inr ⟨c, q⟩))
  | _ => rcases impC_names (by simpa [impT] using hm) with q | q <;> simp [q]
theorem Nm.sub_ne (n : Nm) (c : Nat) : Nm.sub n c ≠ n := by
  intro e
  have : ∀ (n : Nm) c, Nm.sub n c ≠ n := by
    intro n
    induction n with
    | sub m d ih => intro c e; simp at e; exact ih d e.1
    | _ => intro c e; simp at e
  exact this n c e
theorem updL_comm_front {p : Pl} {y : AV} : ∀ {ws : Ws} {f : LF}, (∀ x ∈ ws, x.1 ≠ p) → updL (upd f p y) ws = upd (updL f ws) p y
  | [], _, _ => rfl
  | (q, z) :: ws, f, hx => by
    simp only [updL]
    rw [upd_comm_look _ _ _ _ _ (fun e => hx (q, z) List.mem_cons_self e.symm), updL_comm_front (fun x hm => hx x (List.mem_cons_of_mem _ hm))]
theorem impT_ok {n : Nm} {x : AV} {v : Value} {bs : List Nat} (hs : Sim G E f h β a w) (hr : RelT h w x v bs) (hn : bs.Nodup) (hb : ∀ b ∈ bs, Loose E f β h b) (hf : ∀ m y, (Pl.live m, y) ∈ (impT n x).2 → f (.live m) = .undef) :
    ∃ β', Took G E f h β a w (updL f (impT n x).2) β' bs ∧ SimT h β' (impT n x).1 v := by
  cases x with
  | agg cs =>
    obtain ⟨vs, rfl, hr⟩ := hr
    obtain ⟨β', t, s⟩ := impCs_ok (n := n) (c := 0) hs hr hn hb (by simpa [impT] using hf)
    exact ⟨β', t, vs, rfl, s⟩
  | box cs =>
    obtain ⟨b, vs, T, bs', rfl, hw, hr, rfl⟩ := hr
    obtain ⟨hn1, hn2⟩ := List.nodup_cons.1 hn
    have hfn : f (.live n) = .undef := hf n (.lbox cs.length) (by simp [impT])
    obtain ⟨β1, t1, s1⟩ := impCs_ok (n := n) (c := 0) hs hr hn2 (fun b hm => hb b (by simp [hm])) (fun m y hm => hf m y (by simp [impT, hm]))
    have hlen : cs.length = vs.size := by simpa using hr.length
    have hlen1 : (impCs n 0 cs).1.length = vs.size := by rw [impCs_length, hlen]
    have hl := (hb b (by simp)).after t1 hn1
    have hfn1 : updL f (impCs n 0 cs).2 (.live n) = .undef := by
      rw [updL_other (fun x hx => ?_), hfn]
      obtain ⟨p, z⟩ := x
      obtain ⟨c, _, q | q⟩ := impCs_names hx <;> simp [q, Nm.sub_ne]
    refine ⟨β1.set n (.box b vs.size), ⟨?_, ?_, ?_⟩, ?_⟩
    · refine t1.sim.adoptBox (xs := (impCs n 0 cs).1) (.inl hfn1) hw hl.1 hl.2.1 hl.2.2 s1 ?_ ?_ ?_
      · simp only [impT, updL]
        rw [updL_other (fun x hx => ?_)]
        · simp [upd, hlen]
        · obtain ⟨p, z⟩ := x
          simp only [List.mem_append] at hx
          rcases hx with hx | hx
          · intro e; simp only at e; subst e
            exact cellsW_no_live _ _ _ _ _ hx
          · obtain ⟨c, _, q | q⟩ := impCs_names hx <;> simp [q, Nm.sub_ne]
      · intro c hc
        left
        simp only [impT, updL]
        rw [updL_append, updL_other (fun x hx => ?_), cellsW_look]
        · simp only [Nat.zero_le, Nat.zero_add, true_and, Nat.sub_zero]
          rw [if_pos (by omega)]
        · obtain ⟨p, z⟩ := x
          obtain ⟨c, _, q | q⟩ := impCs_names hx <;> simp [q]
      · intro p h1 h2
        simp only [impT, updL]
        rw [updL_append]
        have e1 : ∀ (g : LF), updL g (cellsW n 0 (impCs n 0 cs).1) p = g p := fun g => by
          rw [cellsW_look]
          cases p with
          | cell m j => simp only; rw [if_neg (fun q => h2 j (by rw [q.1]))]
          | _ => rfl
        exact updL_congr _ _ (by rw [e1]; simp [upd, h1])
    · intro m hm
      by_cases e : m = n
      · subst e; exact absurd (hs.free m hfn) hm
      · simp only [BM.set, e, if_false]; exact t1.le m hm
    · intro m x ho
      by_cases e : m = n
      · subst e
        rcases ho with ⟨q, _⟩ | ⟨_, _, _, q⟩
        · exfalso
          simp only [impT, updL] at q
          rw [updL_other (fun x hx => ?_)] at q
          · simp [upd] at q
          · obtain ⟨p, z⟩ := x
            simp only [List.mem_append] at hx
            rcases hx with hx | hx
            · intro e; simp only at e; subst e
              exact cellsW_no_live _ _ _ _ _ hx
            · obtain ⟨c, _, q | q⟩ := impCs_names hx <;> simp [q, Nm.sub_ne]
        · simp [BM.set] at q; exact .inr (by simp [q.1])
      · have hl : updL f (impT n (.box cs)).2 (.live m) = updL f (impCs n 0 cs).2 (.live m) := by
          simp only [impT, updL]
          rw [updL_append]
          refine updL_congr _ _ ?_
          rw [cellsW_look]
          simp [upd, e]
        rcases t1.own m x (ho.upd_of e hl) with q | q
        · exact .inl q
        · exact .inr (by simp [q])
    · exact ⟨b, vs.size, by simp [BM.set], rfl⟩
  | _ =>
    simp only [RelT] at hr
    obtain ⟨β', t, s⟩ := impC_ok (n := n) hs hr hb (by simpa [impT] using hf)
    exact ⟨β', t, s⟩
theorem sub_of_names {n : Nm} {x : AV} {p : Pl} {y : AV} (hm : (p, y) ∈ (impT n x).2) {m : Nm} (hp : p = .live m) : m = n ∨ ∃ c, m = .sub n c := by
  subst hp
  rcases impT_names hm with q | q | ⟨c, q⟩ | ⟨c, q | q⟩ <;> simp at q
  · exact .inl q
  · exact .inr ⟨c, q⟩
theorem impTs_names {n : Nm} : ∀ {xs : List AV} {c : Nat} {p : Pl} {y : AV}, (p, y) ∈ (impTs n c xs).2 → ∃ c', c ≤ c' ∧ (p = .live (.sub n c') ∨ p = .row (.sub n c') ∨ (∃ d, p = .cell (.sub n c') d) ∨ ∃ d, p = .live (.sub (.sub n c') d) ∨ p = .row (.sub (.sub n c') d))
  | [], _, _, _, hm => by simp [impTs] at hm
  | x :: xs, c, p, y, hm => by
    simp only [impTs, List.mem_append] at hm
    rcases hm with hm | hm
    · exact ⟨c, Nat.le_refl _, impT_names hm⟩
    · obtain ⟨c', h1, h2⟩ := impTs_names hm
      exact ⟨c', by omega, h2⟩
theorem impTs_ok {n : Nm} : ∀ {xs : List AV} {vs : List Value} {bs : List Nat} {c : Nat} {f : LF} {β : BM}, Sim G E f h β a w → RelTL h w xs vs bs → bs.Nodup → (∀ b ∈ bs, Loose E f β h b) →
    (∀ m y, (Pl.live m, y) ∈ (impTs n c xs).2 → f (.live m) = .undef) → ∃ β', Took G E f h β a w (updL f (impTs n c xs).2) β' bs ∧ SimTL h β' (impTs n c xs).1 vs
  | [], [], bs, _, f, β, hs, hr, _, _, _ => ⟨β, by rw [show bs = [] from hr]; exact Took.refl hs, trivial⟩
  | x :: xs, v :: vs, bs, c, f, β, hs, hr, hn, hb, hf => by
    obtain ⟨b1, b2, r1, r2, rfl⟩ := hr
    obtain ⟨β1, t1, s1⟩ := impT_ok (n := .sub n c) hs r1 (List.nodup_append.1 hn).1 (fun b hm => hb b (by simp [hm])) (fun m y hm => hf m y (by simp [impTs, hm]))
    obtain ⟨β2, t2, s2⟩ := impTs_ok (n := n) (c := c + 1) t1.sim r2 (List.nodup_append.1 hn).2.1 (fun b hm => (hb b (by simp [hm])).after t1 (nodup_append_not hn hm)) (fun m y hm => by
      rw [updL_other (fun x hx => ?_)]
      · exact hf m y (by simp [impTs, hm])
      · obtain ⟨c', q1, q2⟩ := impTs_names hm
        obtain ⟨p, z⟩ := x
        intro e
        simp only at e
        rcases sub_of_names hx e with q | ⟨d, q⟩ <;> subst q <;> rcases q2 with q2 | q2 | ⟨d', q2⟩ | ⟨d', q2 | q2⟩ <;> simp at q2 <;> first | omega | exact absurd q2.1 (Nm.sub_ne _ _).symm | exact absurd q2.1 (Nm.sub_ne _ _) | exact absurd q2.1.1 (Nm.sub_ne _ _).symm | exact absurd q2.1.1 (Nm.sub_ne _ _))
    refine ⟨β2, ?_, ?_⟩
    · simp only [impTs]; rw [updL_append]; exact t1.trans t2
    · exact ⟨s1.mono (IH.le_refl h) t2.le, s2⟩
  | [], _ :: _, _, _, _, _, _, hr, _, _, _ => hr.elim
  | _ :: _, [], _, _, _, _, _, hr, _, _, _ => hr.elim
theorem impR_ok {n : Nm} {x : AV} {v : Value} {bs : List Nat} (hs : Sim G E f h β a w) (hr : RelR h w x v bs) (hn : bs.Nodup) (hb : ∀ b ∈ bs, Loose E f β h b) (hf : ∀ m y, (Pl.live m, y) ∈ (impR n x).2 → f (.live m) = .undef) :
    ∃ β', Took G E f h β a w (updL f (impR n x).2) β' bs ∧ SimR h β' (impR n x).1 v := by
  cases x with
  | tup xs =>
    obtain ⟨vs, rfl, hr⟩ := hr
    obtain ⟨β', t, s⟩ := impTs_ok (n := n) (c := 0) hs hr hn hb (by simpa [impR] using hf)
    exact ⟨β', t, vs, rfl, s⟩
  | fn g xs =>
    obtain ⟨vs, rfl, hr⟩ := hr
    obtain ⟨β', t, s⟩ := impTs_ok (n := n) (c := 0) hs hr hn hb (by simpa [impR] using hf)
    exact ⟨β', t, vs, rfl, s⟩
  | _ =>
    simp only [RelR] at hr
    obtain ⟨β', t, s⟩ := impT_ok (n := n) hs hr hn hb (by simpa [impR] using hf)
    exact ⟨β', t, s⟩
end
end Go.Proofs.YtaklcemgpinleaaDoor
