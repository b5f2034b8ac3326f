/- When an abstract state fits a machine's state, and how it goes on fitting as memory is laid, written, frozen and handed over: lemmas of the layer, on no condition. -/
import Derived.Test.YtaklcemgpinleaaDoorCr1
namespace Go.Proofs.YtaklcemgpinleaaDoor
open Go
set_option linter.unusedSimpArgs false
set_option linter.unusedVariables false
set_option linter.unnecessarySimpa false
set_option linter.unusedSectionVars false

/-- What a name stands for: a row (its block, none for nil; the block's cells; cells an element; elements), or a box. -/
inductive BI where
  | none | row (b : Option Nat) (sz k len : Nat) | box (b sz : Nat)
abbrev BM := Nm → BI
def BM.le (β β' : BM) : Prop := ∀ n, β n ≠ .none → β' n = β n
def SimC (h : IH) (β : BM) : AV → Value → Prop
  | .undef, _ => True
  | .skip, v => v = undef
  | .t x, v => Rep h x v
  | .own n k, v => ∃ b sz len cap, β n = .row b sz k len ∧ v = .slice (b.map fun b => ⟨b, 0, .none⟩) len cap ∧ len ≤ cap ∧ cap * k ≤ sz ∧ (b = .none → cap = 0)
  | .part n k i m, v => ∃ b sz len cap off, β n = .row b sz k len ∧ v = .slice (b.map fun b => ⟨b, off, .none⟩) m cap ∧ i + m ≤ len ∧ m ≤ cap ∧ (m = 0 ∨ off = i * k) ∧ (i = 0 → off = 0) ∧ off + cap * k ≤ sz ∧ (b = .none → cap = 0 ∧ off = 0)
  | .ptr n c, v => ∃ b sz, β n = .box b sz ∧ v = .pointer (some ⟨b, c, .none⟩)
  | .eptr n k i c, v => ∃ b sz len, β n = .row (some b) sz k len ∧ v = .pointer (some ⟨b, i * k + c, .none⟩)
  | .tptr r c, v => ∃ b off cs T fr, v = .pointer (some ⟨b, off + c, .none⟩) ∧ h b = some (.cells cs T fr) ∧ CellsAt h cs off r
  | .glob g i, v => v = .pointer (some ⟨g, i, .none⟩)
  | _, _ => False
def SimL (h : IH) (β : BM) : List AV → List Value → Prop
  | [], [] => True
  | a :: as, v :: vs => SimC h β a v ∧ SimL h β as vs
  | _, _ => False
def SimT (h : IH) (β : BM) (a : AV) (v : Value) : Prop :=
  match a with
  | .agg cs => ∃ vs, v = .agg vs ∧ SimL h β cs vs.toList
  | a => SimC h β a v
def SimTL (h : IH) (β : BM) : List AV → List Value → Prop
  | [], [] => True
  | a :: as, v :: vs => SimT h β a v ∧ SimTL h β as vs
  | _, _ => False
def SimR (h : IH) (β : BM) (a : AV) (v : Value) : Prop :=
  match a with
  | .tup as => ∃ vs, v = .tuple vs ∧ SimTL h β as vs.toList
  | .fn f as => ∃ vs, v = .func (.func f) #[] vs ∧ SimTL h β as vs.toList
  | a => SimT h β a v
theorem SimC.mono {h h' : IH} {β β' : BM} (hle : h.le h') (hb : BM.le β β') {a : AV} {v : Value} (hs : SimC h β a v) : SimC h' β' a v := by
  cases a <;> simp only [SimC] at hs ⊢ <;> try exact hs
  · exact hs.mono hle
  · obtain ⟨b, sz, len, cap, h1, r⟩ := hs; exact ⟨b, sz, len, cap, by rw [hb _ (by simp [h1]), h1], r⟩
  · obtain ⟨b, sz, len, cap, off, h1, r⟩ := hs; exact ⟨b, sz, len, cap, off, by rw [hb _ (by simp [h1]), h1], r⟩
  · obtain ⟨b, sz, h1, r⟩ := hs; exact ⟨b, sz, by rw [hb _ (by simp [h1]), h1], r⟩
  · obtain ⟨b, sz, len, h1, r⟩ := hs; exact ⟨b, sz, len, by rw [hb _ (by simp [h1]), h1], r⟩
  · obtain ⟨b, off, cs, T, fr, h1, h2, h3⟩ := hs
    exact ⟨b, off, cs, T, fr, h1, hle _ _ h2, fun j x hj => let ⟨v, hv, hr⟩ := h3 j x hj; ⟨v, hv, hr.mono hle⟩⟩
theorem SimL.mono {h h' : IH} {β β' : BM} (hle : h.le h') (hb : BM.le β β') : ∀ {as : List AV} {vs : List Value}, SimL h β as vs → SimL h' β' as vs
  | [], [], _ => trivial
  | _ :: _, _ :: _, hs => ⟨hs.1.mono hle hb, SimL.mono hle hb hs.2⟩
  | [], _ :: _, hs => hs.elim
  | _ :: _, [], hs => hs.elim
theorem SimT.mono {h h' : IH} {β β' : BM} (hle : h.le h') (hb : BM.le β β') {a : AV} {v : Value} (hs : SimT h β a v) : SimT h' β' a v := by
  cases a <;> simp only [SimT] at hs ⊢ <;> first | exact SimC.mono hle hb hs | exact hs.elim fun vs hv => ⟨vs, hv.1, hv.2.mono hle hb⟩
theorem SimTL.mono {h h' : IH} {β β' : BM} (hle : h.le h') (hb : BM.le β β') : ∀ {as : List AV} {vs : List Value}, SimTL h β as vs → SimTL h' β' as vs
  | [], [], _ => trivial
  | _ :: _, _ :: _, hs => ⟨hs.1.mono hle hb, SimTL.mono hle hb hs.2⟩
  | [], _ :: _, hs => hs.elim
  | _ :: _, [], hs => hs.elim
theorem SimR.mono {h h' : IH} {β β' : BM} (hle : h.le h') (hb : BM.le β β') {a : AV} {v : Value} (hs : SimR h β a v) : SimR h' β' a v := by
  cases a <;> simp only [SimR] at hs ⊢ <;> first | exact SimT.mono hle hb hs | exact hs.elim fun vs hv => ⟨vs, hv.1, hv.2.mono hle hb⟩
theorem BM.le_refl (β : BM) : BM.le β β := fun _ _ => rfl
theorem SimL.length {h : IH} {β : BM} : ∀ {as : List AV} {vs : List Value}, SimL h β as vs → as.length = vs.length
  | [], [], _ => rfl
  | _ :: _, _ :: _, hs => by simp [SimL.length hs.2]
  | [], _ :: _, hs => hs.elim
  | _ :: _, [], hs => hs.elim
theorem SimL.get {h : IH} {β : BM} : ∀ {as : List AV} {vs : List Value}, SimL h β as vs → ∀ {i : Nat} {a : AV}, as[i]? = some a → ∃ v, vs[i]? = some v ∧ SimC h β a v
  | [], [], _, i, a, hi => by simp at hi
  | _ :: _, _ :: _, hs, 0, a, hi => by simp at hi; subst hi; exact ⟨_, rfl, hs.1⟩
  | _ :: _, _ :: _, hs, i + 1, a, hi => by simpa using SimL.get hs.2 (i := i) (by simpa using hi)
  | [], _ :: _, hs, _, _, _ => hs.elim
  | _ :: _, [], hs, _, _, _ => hs.elim

/-- Of a world nothing has turned but new blocks and the blocks bs, whose shapes stay. -/
structure Fr (w w' : World) (bs : List Nat) : Prop where
  os : w'.os = w.os
  tape : w'.tape = w.tape
  output : w'.output = w.output
  size : w.heap.size ≤ w'.heap.size
  keep : ∀ b, b < w.heap.size → b ∉ bs → w'.heap[b]? = w.heap[b]?
  shape : ∀ b cs T, w.heap[b]? = some (.cells cs T (0, 0)) → b ∈ bs → ∃ cs', w'.heap[b]? = some (.cells cs' T (0, 0)) ∧ cs'.size = cs.size
theorem Fr.refl (w : World) (bs : List Nat) : Fr w w bs := ⟨rfl, rfl, rfl, Nat.le_refl _, fun _ _ _ => rfl, fun _ cs _ h _ => ⟨cs, h, rfl⟩⟩
/-- The context of a call: the world, what was immutable and what was handed in when it began; the slots of its frame. -/
structure Env where
  w0 : World
  h0 : IH
  bs : List Nat
  N : Nat
  gh : Nat → Value
def OwnB (f : LF) (β : BM) (n : Nm) (b : Nat) : Prop :=
  (f (.live n) = .lrow false ∧ ∃ sz k len, β n = .row (some b) sz k len) ∨ (∃ s, f (.live n) = .lbox s ∧ ∃ sz, β n = .box b sz)
def RowOK (h : IH) (w : World) (fr : Bool) (b : Option Nat) (sz k : Nat) (rows : Rows) : Prop :=
  match b with
  | .none => rows = [] ∧ sz = 0
  | some b => match fr with
    | true => ∃ cs T z, h b = some (.cells cs T z) ∧ RowsAt h cs 0 k rows
    | false => ∃ cs T, w.heap[b]? = some (.cells cs T (0, 0)) ∧ cs.size = sz ∧ h b = .none ∧ RowsAt h cs 0 k rows
def BoxOK (h : IH) (β : BM) (w : World) (f : LF) (n : Nm) (b sz : Nat) : Prop :=
  ∃ cs T, w.heap[b]? = some (.cells cs T (0, 0)) ∧ cs.size = sz ∧ h b = .none ∧ ∀ c, c < sz → isDef (f (.cell n c)) = true → ∃ v, cs[c]? = some v ∧ SimC h β (f (.cell n c)) v
def GOK (G : Nat → Option Rows) (h : IH) : Prop := ∀ g rows, G g = some rows → ∃ cs T fr, h g = some (.cells cs T fr) ∧ cs.size = rows.length ∧ RowsAt h cs 0 1 rows

structure Sim (G : Nat → Option Rows) (E : Env) (f : LF) (h : IH) (β : BM) (a : Act) (w : World) : Prop where
  glob : GOK G E.h0
  on : h.on w
  fr : Fr E.w0 w E.bs
  le0 : E.h0.le h
  fresh : ∀ b o, h b = some o → E.h0 b = some o ∨ b ∈ E.bs ∨ E.w0.heap.size ≤ b
  old : ∀ b o, E.h0 b = some o → b < E.w0.heap.size ∧ b ∉ E.bs
  size : a.tmps.size = E.N
  defers : a.defers = []
  tmps : ∀ t, SimR h β (f (.tmp t)) (a.tmps.getD t undef)
  ghost : ∀ j, SimR h β (f (.gh j)) (E.gh j)
  free : ∀ n, f (.live n) = .undef → β n = .none
  rows : ∀ n fr, f (.live n) = .lrow fr → ∃ b sz k rows, β n = .row b sz k rows.length ∧ f (.row n) = .rowc k rows ∧ RowOK h w fr b sz k rows
  boxes : ∀ n sz, f (.live n) = .lbox sz → ∃ b, β n = .box b sz ∧ BoxOK h β w f n b sz
  inj : ∀ n n' b, OwnB f β n b → OwnB f β n' b → n = n'
  own : ∀ n b, OwnB f β n b → b ∈ E.bs ∨ E.w0.heap.size ≤ b

section
variable {G : Nat → Option Rows} {E : Env} {f : LF} {h : IH} {β : BM} {a : Act} {w : World}
theorem getD_put (tmps : Array Value) (d t : Nat) (v x : Value) (hd : d < tmps.size) : (tmps.setIfInBounds d v).getD t x = if t = d then v else tmps.getD t x := by
  simp only [Array.getD_eq_getD_getElem?, Array.getElem?_setIfInBounds]
  by_cases h : d = t
  · subst h; simp [hd]
  · simp [h, Ne.symm h]
theorem upd_same (f : LF) (p : Pl) (a : AV) : upd f p a p = a := by simp [upd]
theorem upd_other (f : LF) {p q : Pl} (a : AV) (h : q ≠ p) : upd f p a q = f q := by simp [upd, h]
/-- A slot is written. -/
theorem Sim.put (hs : Sim G E f h β a w) {d : Nat} (hd : d < E.N) {x : AV} {v : Value} (hv : SimR h β x v) : Sim G E (upd f (.tmp d) x) h β (a.put (some d) v) w where
  glob := hs.glob
  on := hs.on
  fr := hs.fr
  le0 := hs.le0
  fresh := hs.fresh
  old := hs.old
  size := by simp [Act.put, hs.size]
  defers := hs.defers
  tmps t := by
    simp only [Act.put, upd, Pl.tmp.injEq]
    rw [getD_put _ _ _ _ _ (by rw [hs.size]; exact hd)]
    split
    · exact hv
    · exact hs.tmps t
  ghost j := by simpa [upd] using hs.ghost j
  free n := by simpa [upd] using hs.free n
  rows n fr := by simpa [upd] using hs.rows n fr
  boxes n sz := by simpa [upd, BoxOK] using hs.boxes n sz
  inj n n' b := by simpa [upd, OwnB] using hs.inj n n' b
  own n b := by simpa [upd, OwnB] using hs.own n b
theorem Sim.putO (hs : Sim G E f h β a w) {d : Nat} (hd : d < E.N) {x : AV} {v : Value} (hv : SimR h β x v) {o : Oper} (ho : o.dst = some d) : Sim G E (upd f (.tmp d) x) h β (a.put o.dst v) w := by
  rw [ho]; exact hs.put hd hv
/-- Nothing but the streams' own count has turned. -/
theorem Sim.world {w' : World} (hs : Sim G E f h β a w) (h1 : w'.heap = w.heap) (h2 : w'.os = w.os) (h3 : w'.tape = w.tape) (h4 : w'.output = w.output) : Sim G E f h β a w' where
  glob := hs.glob
  on b o hb := by rw [h1]; exact hs.on b o hb
  fr := ⟨h2.trans hs.fr.os, h3.trans hs.fr.tape, h4.trans hs.fr.output, by rw [h1]; exact hs.fr.size, fun b hb hn => by rw [h1]; exact hs.fr.keep b hb hn, fun b cs T hb hm => by rw [h1]; exact hs.fr.shape b cs T hb hm⟩
  le0 := hs.le0
  fresh := hs.fresh
  old := hs.old
  size := hs.size
  defers := hs.defers
  tmps := hs.tmps
  ghost := hs.ghost
  free := hs.free
  rows n fr hn := by
    obtain ⟨b, sz, k, rows, e1, e2, e3⟩ := hs.rows n fr hn
    refine ⟨b, sz, k, rows, e1, e2, ?_⟩
    unfold RowOK at *
    rw [h1]; exact e3
  boxes n sz hn := by
    obtain ⟨b, e1, e2⟩ := hs.boxes n sz hn
    refine ⟨b, e1, ?_⟩
    unfold BoxOK at *
    rw [h1]; exact e2
  inj := hs.inj
  own := hs.own

/-- A new block that nobody knows yet. -/
theorem Sim.alloc (hs : Sim G E f h β a w) (o : Obj) : Sim G E f h β a (w.alloc o) := by
  have hk : ∀ b, b < w.heap.size → (w.alloc o).heap[b]? = w.heap[b]? := fun b hb => by
    show (w.heap.push o)[b]? = _
    rw [Array.getElem?_push, if_neg (by omega)]
  have hin : ∀ {b x}, w.heap[b]? = some x → b < w.heap.size := fun hb => by
    obtain ⟨hlt, _⟩ := Array.getElem?_eq_some_iff.1 hb; exact hlt
  refine { glob := hs.glob, on := ?_, fr := ?_, le0 := hs.le0, fresh := hs.fresh, old := hs.old, size := hs.size, defers := hs.defers, tmps := hs.tmps, ghost := hs.ghost, free := hs.free, rows := ?_, boxes := ?_, inj := hs.inj, own := hs.own }
  · intro b x hb; have := hs.on b x hb; rw [hk _ (hin this)]; exact this
  · have hf := hs.fr
    refine ⟨hf.os, hf.tape, hf.output, Nat.le_trans hf.size (by simp), fun b hb hn => ?_, fun b cs T hb hm => ?_⟩
    · rw [hk _ (Nat.lt_of_lt_of_le hb hf.size)]; exact hf.keep b hb hn
    · obtain ⟨cs', h1, h2⟩ := hf.shape b cs T hb hm
      exact ⟨cs', by rw [hk _ (hin h1)]; exact h1, h2⟩
  · intro n fr hn
    obtain ⟨b, sz, k, rows, e1, e2, e3⟩ := hs.rows n fr hn
    refine ⟨b, sz, k, rows, e1, e2, ?_⟩
    cases b with
    | none => exact e3
    | some b =>
      cases fr with
      | true => exact e3
      | false =>
        obtain ⟨cs, T, h1, h2⟩ := e3
        exact ⟨cs, T, by rw [hk _ (hin h1)]; exact h1, h2⟩
  · intro n sz hn
    obtain ⟨b, e1, cs, T, h1, h2⟩ := hs.boxes n sz hn
    exact ⟨b, e1, cs, T, by rw [hk _ (hin h1)]; exact h1, h2⟩
/-- A block that nobody owns, and that is not immutable, is written. -/
theorem Sim.touch (hs : Sim G E f h β a w) {b : Nat} {cs cs' : Array Value} {T : TypeId} (hb : w.heap[b]? = some (.cells cs T (0, 0))) (hsz : cs'.size = cs.size) (hno : ∀ n, ¬ OwnB f β n b) (hh : h b = .none) (hin : b ∈ E.bs ∨ E.w0.heap.size ≤ b)
    {w' : World} (h2 : w'.os = w.os) (h3 : w'.tape = w.tape) (h4 : w'.output = w.output) (h5 : w'.heap.size = w.heap.size) (hk : ∀ x, x ≠ b → w'.heap[x]? = w.heap[x]?) (hb' : w'.heap[b]? = some (.cells cs' T (0, 0))) : Sim G E f h β a w' := by
  refine { glob := hs.glob, on := ?_, fr := ?_, le0 := hs.le0, fresh := hs.fresh, old := hs.old, size := hs.size, defers := hs.defers, tmps := hs.tmps, ghost := hs.ghost, free := hs.free, rows := ?_, boxes := ?_, inj := hs.inj, own := hs.own }
  · intro x o hx
    rw [hk x (fun e => by rw [e, hh] at hx; cases hx)]; exact hs.on x o hx
  · have hf := hs.fr
    refine ⟨h2.trans hf.os, h3.trans hf.tape, h4.trans hf.output, by rw [h5]; exact hf.size, fun x hx hn => ?_, fun x c T' hx hm => ?_⟩
    · rw [hk x (fun e => by subst e; rcases hin with hi | hi; exact hn hi; omega)]; exact hf.keep x hx hn
    · obtain ⟨c', e1, e2⟩ := hf.shape x c T' hx hm
      by_cases e : x = b
      · subst e
        rw [hb] at e1
        simp only [Option.some.injEq, Obj.cells.injEq] at e1
        obtain ⟨rfl, rfl, _⟩ := e1
        exact ⟨cs', hb', hsz.trans e2⟩
      · exact ⟨c', by rw [hk x e]; exact e1, e2⟩
  · intro n fr hn
    obtain ⟨b', sz, k, rows, e1, e2, e3⟩ := hs.rows n fr hn
    refine ⟨b', sz, k, rows, e1, e2, ?_⟩
    cases b' with
    | none => exact e3
    | some b' =>
      cases fr with
      | true => exact e3
      | false =>
        obtain ⟨c, T', q1, q2⟩ := e3
        exact ⟨c, T', by rw [hk _ (fun e => hno n (.inl ⟨hn, _, _, _, by rw [e1, e]⟩))]; exact q1, q2⟩
  · intro n sz hn
    obtain ⟨b', e1, c, T', q1, q2⟩ := hs.boxes n sz hn
    exact ⟨b', e1, c, T', by rw [hk _ (fun e => hno n (.inr ⟨_, hn, _, by rw [e1, e]⟩))]; exact q1, q2⟩
def BM.set (β : BM) (n : Nm) (x : BI) : BM := fun m => if m = n then x else β m
theorem BM.le_set {β : BM} {n : Nm} {x : BI} (hn : β n = .none) : BM.le β (β.set n x) := by
  intro m hm
  simp only [BM.set]
  by_cases e : m = n
  · subst e; exact absurd hn hm
  · rw [if_neg e]
def FreeN (f : LF) (β : BM) (n : Nm) (x : BI) : Prop := f (.live n) = .undef ∨ (f (.live n) = .skip ∧ β n = x)
theorem le_of_free {n : Nm} {x : BI} (hs : Sim G E f h β a w) (hf : FreeN f β n x) : BM.le β (β.set n x) := by
  rcases hf with hf | ⟨_, hf⟩
  · exact BM.le_set (hs.free n hf)
  · intro m _; simp only [BM.set]; split
    · rename_i e; rw [e, hf]
    · rfl
theorem OwnB.upd_of {f : LF} {β : BM} {n m : Nm} {b : Nat} {x : BI} {f' : LF} (hm : m ≠ n) (hl : f' (.live m) = f (.live m)) (ho : OwnB f' (β.set n x) m b) : OwnB f β m b := by
  rcases ho with ⟨h1, sz, k, len, h2⟩ | ⟨s, h1, sz, h2⟩
  · exact .inl ⟨hl ▸ h1, sz, k, len, by simpa [BM.set, hm] using h2⟩
  · exact .inr ⟨s, hl ▸ h1, sz, by simpa [BM.set, hm] using h2⟩
/-- A block that nobody owns gets a name: a row. -/
theorem Sim.adoptRow (hs : Sim G E f h β a w) {n : Nm} {b sz k : Nat} {rows : Rows} {cs : Array Value} {T : TypeId} (hf : FreeN f β n (.row (some b) sz k rows.length))
    (hb : w.heap[b]? = some (.cells cs T (0, 0))) (hsz : cs.size = sz) (hh : h b = .none) (hno : ∀ m, ¬ OwnB f β m b) (hin : b ∈ E.bs ∨ E.w0.heap.size ≤ b) (hr : RowsAt h cs 0 k rows) :
    Sim G E (upd (upd f (.live n) (.lrow false)) (.row n) (.rowc k rows)) h (β.set n (.row (some b) sz k rows.length)) a w := by
  have hle := le_of_free hs hf
  have hnl : ∀ {m fr}, m ≠ n → f (.live m) = .lrow fr → m ≠ n := fun h _ => h
  refine { glob := hs.glob, on := hs.on, fr := hs.fr, le0 := hs.le0, fresh := hs.fresh, old := hs.old, size := hs.size, defers := hs.defers, tmps := fun t => ?_, ghost := fun t => by simp only [upd, reduceCtorEq, if_false]; exact (hs.ghost t).mono (IH.le_refl h) hle, free := fun m => ?_, rows := fun m fr => ?_, boxes := fun m s => ?_, inj := fun m m' x => ?_, own := fun m x => ?_ }
  · simp only [upd, reduceCtorEq, if_false]; exact (hs.tmps t).mono (IH.le_refl h) hle
  · simp only [upd, reduceCtorEq, if_false, Pl.live.injEq]
    by_cases e : m = n
    · simp [e]
    · simp only [e, if_false, BM.set]; exact hs.free m
  · simp only [upd, reduceCtorEq, if_false, Pl.live.injEq, Pl.row.injEq]
    by_cases e : m = n
    · subst e
      simp only [if_true, AV.lrow.injEq]
      intro hfr; subst hfr
      exact ⟨some b, sz, k, rows, by simp [BM.set], rfl, cs, T, hb, hsz, hh, hr⟩
    · simp only [e, if_false]
      intro hm
      obtain ⟨b', sz', k', rows', e1, e2, e3⟩ := hs.rows m fr hm
      exact ⟨b', sz', k', rows', by simp [BM.set, e, e1], e2, e3⟩
  · simp only [upd, reduceCtorEq, if_false, Pl.live.injEq]
    by_cases e : m = n
    · subst e; simp
    · simp only [e, if_false]
      intro hm
      obtain ⟨b', e1, c, T', q1, q2, q3, q4⟩ := hs.boxes m s hm
      refine ⟨b', by simp [BM.set, e, e1], c, T', q1, q2, q3, fun c' hlt hc => ?_⟩
      simp only [upd, reduceCtorEq, if_false] at hc ⊢
      obtain ⟨v, h1, h2⟩ := q4 c' hlt hc
      exact ⟨v, h1, h2.mono (IH.le_refl h) hle⟩
  · intro h1 h2
    have key : ∀ m, m ≠ n → OwnB (upd (upd f (.live n) (.lrow false)) (.row n) (.rowc k rows)) (β.set n (.row (some b) sz k rows.length)) m x → OwnB f β m x := fun m e ho => ho.upd_of e (by simp [upd, e])
    by_cases e1 : m = n <;> by_cases e2 : m' = n
    · rw [e1, e2]
    · exfalso; subst e1
      have hx : x = b := by
        rcases h1 with ⟨_, _, _, _, h1⟩ | ⟨_, h1, _⟩
        · simp [BM.set] at h1; exact h1.1.symm
        · simp [upd] at h1
      exact hno m' (hx ▸ key m' e2 h2)
    · exfalso; subst e2
      have hx : x = b := by
        rcases h2 with ⟨_, _, _, _, h1⟩ | ⟨_, h1, _⟩
        · simp [BM.set] at h1; exact h1.1.symm
        · simp [upd] at h1
      exact hno m (hx ▸ key m e1 h1)
    · exact hs.inj m m' x (key m e1 h1) (key m' e2 h2)
  · intro h1
    by_cases e : m = n
    · subst e
      have hx : x = b := by
        rcases h1 with ⟨_, _, _, _, h1⟩ | ⟨_, h1, _⟩
        · simp [BM.set] at h1; exact h1.1.symm
        · simp [upd] at h1
      exact hx ▸ hin
    · exact hs.own m x (h1.upd_of e (by simp [upd, e]))
/-- The nil row gets a name. -/
theorem Sim.adoptNil (hs : Sim G E f h β a w) {n : Nm} {k : Nat} (hf : FreeN f β n (.row .none 0 k 0)) :
    Sim G E (upd (upd f (.live n) (.lrow false)) (.row n) (.rowc k [])) h (β.set n (.row .none 0 k 0)) a w := by
  have hle := le_of_free hs hf
  have key : ∀ m x, OwnB (upd (upd f (.live n) (.lrow false)) (.row n) (.rowc k [])) (β.set n (.row .none 0 k 0)) m x → OwnB f β m x := fun m x ho => by
    by_cases e : m = n
    · subst e
      rcases ho with ⟨_, _, _, _, h1⟩ | ⟨_, h1, _⟩
      · simp [BM.set] at h1
      · simp [upd] at h1
    · exact ho.upd_of e (by simp [upd, e])
  refine { glob := hs.glob, on := hs.on, fr := hs.fr, le0 := hs.le0, fresh := hs.fresh, old := hs.old, size := hs.size, defers := hs.defers, tmps := fun t => ?_, ghost := fun t => by simp only [upd, reduceCtorEq, if_false]; exact (hs.ghost t).mono (IH.le_refl h) hle, free := fun m => ?_, rows := fun m fr => ?_, boxes := fun m s => ?_, inj := fun m m' x h1 h2 => hs.inj m m' x (key _ _ h1) (key _ _ h2), own := fun m x h1 => hs.own m x (key _ _ h1) }
  · simp only [upd, reduceCtorEq, if_false]; exact (hs.tmps t).mono (IH.le_refl h) hle
  · simp only [upd, reduceCtorEq, if_false, Pl.live.injEq]
    by_cases e : m = n
    · simp [e]
    · simp only [e, if_false, BM.set]; exact hs.free m
  · simp only [upd, reduceCtorEq, if_false, Pl.live.injEq, Pl.row.injEq]
    by_cases e : m = n
    · subst e
      simp only [if_true, AV.lrow.injEq]
      intro hfr; subst hfr
      exact ⟨.none, 0, k, [], by simp [BM.set], rfl, rfl, rfl⟩
    · simp only [e, if_false]
      intro hm
      obtain ⟨b', sz', k', rows', e1, e2, e3⟩ := hs.rows m fr hm
      exact ⟨b', sz', k', rows', by simp [BM.set, e, e1], e2, e3⟩
  · simp only [upd, reduceCtorEq, if_false, Pl.live.injEq]
    by_cases e : m = n
    · subst e; simp
    · simp only [e, if_false]
      intro hm
      obtain ⟨b', e1, c, T', q1, q2, q3, q4⟩ := hs.boxes m s hm
      refine ⟨b', by simp [BM.set, e, e1], c, T', q1, q2, q3, fun c' hlt hc => ?_⟩
      simp only [upd, reduceCtorEq, if_false] at hc ⊢
      obtain ⟨v, h1, h2⟩ := q4 c' hlt hc
      exact ⟨v, h1, h2.mono (IH.le_refl h) hle⟩
/-- A block that nobody owns gets a name: a box. -/
theorem Sim.adoptBox (hs : Sim G E f h β a w) {n : Nm} {b : Nat} {cs : Array Value} {T : TypeId} {xs : List AV} (hf : FreeN f β n (.box b cs.size))
    (hb : w.heap[b]? = some (.cells cs T (0, 0))) (hh : h b = .none) (hno : ∀ m, ¬ OwnB f β m b) (hin : b ∈ E.bs ∨ E.w0.heap.size ≤ b) (hx : SimL h β xs cs.toList)
    {f' : LF} (h1 : f' (.live n) = .lbox cs.size) (h2 : ∀ c, c < cs.size → f' (.cell n c) = (xs[c]?).getD .undef ∨ isDef (f' (.cell n c)) = false) (h3 : ∀ p, p ≠ .live n → (∀ c, p ≠ .cell n c) → f' p = f p) :
    Sim G E f' h (β.set n (.box b cs.size)) a w := by
  have hle := le_of_free hs hf
  have hl : ∀ m, m ≠ n → f' (.live m) = f (.live m) := fun m e => h3 _ (by simp [e]) (by simp)
  have key : ∀ m x, m ≠ n → OwnB f' (β.set n (.box b cs.size)) m x → OwnB f β m x := fun m x e ho => ho.upd_of e (hl m e)
  have hxb : ∀ x, OwnB f' (β.set n (.box b cs.size)) n x → x = b := fun x ho => by
    rcases ho with ⟨q, _⟩ | ⟨_, _, _, q⟩
    · rw [h1] at q; cases q
    · simp [BM.set] at q; exact q.1.symm
  refine { glob := hs.glob, on := hs.on, fr := hs.fr, le0 := hs.le0, fresh := hs.fresh, old := hs.old, size := hs.size, defers := hs.defers, tmps := fun t => ?_, ghost := fun t => by rw [h3 _ (by simp) (by simp)]; exact (hs.ghost t).mono (IH.le_refl h) hle, free := fun m => ?_, rows := fun m fr => ?_, boxes := fun m s => ?_, inj := fun m m' x q1 q2 => ?_, own := fun m x q => ?_ }
  · rw [h3 _ (by simp) (by simp)]; exact (hs.tmps t).mono (IH.le_refl h) hle
  · by_cases e : m = n
    · subst e; rw [h1]; simp
    · rw [hl m e]; simp only [BM.set, e, if_false]; exact hs.free m
  · by_cases e : m = n
    · subst e; rw [h1]; simp
    · rw [hl m e, h3 (.row m) (by simp) (by simp)]
      intro hm
      obtain ⟨b', sz', k', rows', e1, e2, e3⟩ := hs.rows m fr hm
      exact ⟨b', sz', k', rows', by simp [BM.set, e, e1], e2, e3⟩
  · by_cases e : m = n
    · subst e; rw [h1]
      simp only [AV.lbox.injEq]
      intro hs'; subst hs'
      refine ⟨b, by simp [BM.set], cs, T, hb, rfl, hh, fun c hlt hc => ?_⟩
      rcases h2 c hlt with h2 | h2
      · cases hxc : xs[c]? with
        | none => rw [h2, hxc] at hc; simp [isDef] at hc
        | some x =>
          obtain ⟨v, q1, q2⟩ := hx.get hxc
          refine ⟨v, by simpa using q1, ?_⟩
          rw [h2, hxc]; exact q2.mono (IH.le_refl h) hle
      · rw [h2] at hc; cases hc
    · rw [hl m e]
      intro hm
      obtain ⟨b', e1, c, T', q1, q2, q3, q4⟩ := hs.boxes m s hm
      refine ⟨b', by simp [BM.set, e, e1], c, T', q1, q2, q3, fun c' hlt hc => ?_⟩
      rw [h3 _ (by simp) (by simp [e])] at hc ⊢
      obtain ⟨v, r1, r2⟩ := q4 c' hlt hc
      exact ⟨v, r1, r2.mono (IH.le_refl h) hle⟩
  · by_cases e1 : m = n <;> by_cases e2 : m' = n
    · rw [e1, e2]
    · exfalso; subst e1; exact hno m' (hxb x q1 ▸ key m' x e2 q2)
    · exfalso; subst e2; exact hno m (hxb x q2 ▸ key m x e1 q1)
    · exact hs.inj m m' x (key m x e1 q1) (key m' x e2 q2)
  · by_cases e : m = n
    · subst e; exact hxb x q ▸ hin
    · exact hs.own m x (key m x e q)
/-- What a name stands for is given away: nothing is known of it, but what it stood for. -/
theorem Sim.kill (hs : Sim G E f h β a w) {n : Nm} {f' : LF} (h1 : f' (.live n) = .skip) (h2 : ∀ p, p ≠ .live n → p ≠ .row n → f' p = f p) : Sim G E f' h β a w := by
  have hl : ∀ m, m ≠ n → f' (.live m) = f (.live m) := fun m e => h2 _ (by simp [e]) (by simp)
  have key : ∀ m x, OwnB f' β m x → OwnB f β m x ∧ m ≠ n := fun m x ho => by
    by_cases e : m = n
    · subst e; rcases ho with ⟨q, _⟩ | ⟨_, q, _⟩ <;> rw [h1] at q <;> cases q
    · refine ⟨?_, e⟩; unfold OwnB at *; rwa [hl m e] at ho
  refine { glob := hs.glob, on := hs.on, fr := hs.fr, le0 := hs.le0, fresh := hs.fresh, old := hs.old, size := hs.size, defers := hs.defers, tmps := fun t => ?_, ghost := fun t => by rw [h2 _ (by simp) (by simp)]; exact hs.ghost t, free := fun m => ?_, rows := fun m fr => ?_, boxes := fun m s => ?_, inj := fun m m' x q1 q2 => hs.inj m m' x (key _ _ q1).1 (key _ _ q2).1, own := fun m x q => hs.own m x (key _ _ q).1 }
  · rw [h2 _ (by simp) (by simp)]; exact hs.tmps t
  · by_cases e : m = n
    · subst e; rw [h1]; simp
    · rw [hl m e]; exact hs.free m
  · by_cases e : m = n
    · subst e; rw [h1]; simp
    · rw [hl m e, h2 (.row m) (by simp) (by simp [e])]; exact hs.rows m fr
  · by_cases e : m = n
    · subst e; rw [h1]; simp
    · rw [hl m e]
      intro hm
      obtain ⟨b', e1, c, T', q1, q2, q3, q4⟩ := hs.boxes m s hm
      refine ⟨b', e1, c, T', q1, q2, q3, fun c' hlt hc => ?_⟩
      rw [h2 _ (by simp) (by simp)] at hc ⊢
      exact q4 c' hlt hc
/-- It is given away for good: its block is nobody's. -/
theorem Sim.kill_no (hs : Sim G E f h β a w) {n : Nm} {b : Nat} {f' : LF} (hb : OwnB f β n b) (h1 : f' (.live n) = .skip) (h2 : ∀ p, p ≠ .live n → p ≠ .row n → f' p = f p) : ∀ m, ¬ OwnB f' β m b := by
  intro m ho
  by_cases e : m = n
  · subst e; rcases ho with ⟨q, _⟩ | ⟨_, q, _⟩ <;> rw [h1] at q <;> cases q
  · have hl : f' (.live m) = f (.live m) := h2 _ (by simp [e]) (by simp)
    exact e (hs.inj m n b (by unfold OwnB at *; rwa [hl] at ho) hb)
/-- A row is frozen. -/
theorem Sim.freeze (hs : Sim G E f h β a w) {n : Nm} {fr : Bool} (hn : f (.live n) = .lrow fr) {f' : LF} (h1 : f' (.live n) = .lrow true) (h2 : ∀ p, p ≠ .live n → f' p = f p) :
    ∃ h', h.le h' ∧ Sim G E f' h' β a w := by
  have hl : ∀ m, m ≠ n → f' (.live m) = f (.live m) := fun m e => h2 _ (by simp [e])
  obtain ⟨b, sz, k, rows, e1, e2, e3⟩ := hs.rows n fr hn
  have key : ∀ m x, OwnB f' β m x → OwnB f β m x ∧ m ≠ n := fun m x ho => by
    by_cases e : m = n
    · subst e; rcases ho with ⟨q, _⟩ | ⟨_, q, _⟩ <;> rw [h1] at q <;> cases q
    · refine ⟨?_, e⟩; unfold OwnB at *; rwa [hl m e] at ho
  -- the row's own fact in a new h
  suffices H : ∃ h', h.le h' ∧ IH.on h' w ∧ (∀ x o, h' x = some o → E.h0 x = some o ∨ x ∈ E.bs ∨ E.w0.heap.size ≤ x) ∧ RowOK h' w true b sz k rows ∧ (∀ x, h' x ≠ h x → OwnB f β n x) by
    obtain ⟨h', hle, hon, hfresh, hrow, hdiff⟩ := H
    have same : ∀ m x, m ≠ n → OwnB f β m x → h' x = h x := fun m x e ho => by
      by_cases q : h' x = h x
      · exact q
      · exact absurd (hs.inj m n x ho (hdiff x q)) e
    refine ⟨h', hle, { glob := hs.glob, on := hon, fr := hs.fr, le0 := IH.le_trans hs.le0 hle, fresh := hfresh, old := hs.old, size := hs.size, defers := hs.defers, tmps := fun t => ?_, ghost := fun t => by rw [h2 _ (by simp)]; exact (hs.ghost t).mono hle (BM.le_refl β), free := fun m => ?_, rows := fun m fr' => ?_, boxes := fun m s => ?_, inj := fun m m' x q1 q2 => hs.inj m m' x (key _ _ q1).1 (key _ _ q2).1, own := fun m x q => hs.own m x (key _ _ q).1 }⟩
    · rw [h2 _ (by simp)]; exact (hs.tmps t).mono hle (BM.le_refl β)
    · by_cases e : m = n
      · subst e; rw [h1]; simp
      · rw [hl m e]; exact hs.free m
    · by_cases e : m = n
      · subst e; rw [h1, h2 (.row m) (by simp)]
        simp only [AV.lrow.injEq]; intro q; subst q
        exact ⟨b, sz, k, rows, e1, e2, hrow⟩
      · rw [hl m e, h2 (.row m) (by simp)]
        intro hm
        obtain ⟨b', sz', k', rows', q1, q2, q3⟩ := hs.rows m fr' hm
        refine ⟨b', sz', k', rows', q1, q2, ?_⟩
        cases b' with
        | none => exact q3
        | some b' =>
          cases fr' with
          | true => obtain ⟨cs, T, z, r1, r2⟩ := q3; exact ⟨cs, T, z, hle _ _ r1, r2.mono hle⟩
          | false =>
            obtain ⟨cs, T, r1, r2, r3, r4⟩ := q3
            exact ⟨cs, T, r1, r2, (same m b' e (.inl ⟨hm, _, _, _, q1⟩)).trans r3, r4.mono hle⟩
    · by_cases e : m = n
      · subst e; rw [h1]; simp
      · rw [hl m e]
        intro hm
        obtain ⟨b', q1, c, T', r1, r2, r3, r4⟩ := hs.boxes m s hm
        refine ⟨b', q1, c, T', r1, r2, (same m b' e (.inr ⟨_, hm, _, q1⟩)).trans r3, fun c' hlt hc => ?_⟩
        rw [h2 _ (by simp)] at hc ⊢
        obtain ⟨v, s1, s2⟩ := r4 c' hlt hc
        exact ⟨v, s1, s2.mono hle (BM.le_refl β)⟩
  cases b with
  | none => exact ⟨h, IH.le_refl h, hs.on, hs.fresh, e3, fun x hx => absurd rfl hx⟩
  | some b =>
    cases fr with
    | true => exact ⟨h, IH.le_refl h, hs.on, hs.fresh, e3, fun x hx => absurd rfl hx⟩
    | false =>
      obtain ⟨cs, T, r1, r2, r3, r4⟩ := e3
      have hown : OwnB f β n b := .inl ⟨hn, _, _, _, e1⟩
      have hle : h.le (fun x => if x = b then some (.cells cs T (0, 0)) else h x) := fun x o hx => by
        by_cases e : x = b
        · subst e; rw [r3] at hx; cases hx
        · simpa [e] using hx
      refine ⟨fun x => if x = b then some (.cells cs T (0, 0)) else h x, hle, fun x o hx => ?_, fun x o hx => ?_, ⟨cs, T, (0, 0), by simp, r4.mono hle⟩, fun x hx => ?_⟩
      · by_cases e : x = b
        · subst e; simp at hx; subst hx; exact r1
        · simp only [e, if_false] at hx; exact hs.on x o hx
      · by_cases e : x = b
        · subst e; exact .inr (hs.own n x hown)
        · simp only [e, if_false] at hx; exact hs.fresh x o hx
      · by_cases e : x = b
        · subst e; exact hown
        · simp [e] at hx
/-- A block that n owns is written: all else stays. -/
theorem Sim.rewrite (hs : Sim G E f h β a w) {n : Nm} {b : Nat} (hown : OwnB f β n b) {cs cs' : Array Value} {T : TypeId} (hb : w.heap[b]? = some (.cells cs T (0, 0))) (hsz : cs'.size = cs.size)
    {w' : World} (h2 : w'.os = w.os) (h3 : w'.tape = w.tape) (h4 : w'.output = w.output) (h5 : w'.heap.size = w.heap.size) (hk : ∀ x, x ≠ b → w'.heap[x]? = w.heap[x]?) (hb' : w'.heap[b]? = some (.cells cs' T (0, 0)))
    {f' : LF} (g1 : ∀ m, f' (.live m) = f (.live m)) (g2 : ∀ m, m ≠ n → f' (.row m) = f (.row m)) (g3 : ∀ m c, m ≠ n → f' (.cell m c) = f (.cell m c)) (g4 : ∀ t, f' (.tmp t) = f (.tmp t)) (g5 : ∀ t, f' (.gh t) = f (.gh t))
    (hrow : ∀ sz k len, f (.live n) = .lrow false → β n = .row (some b) sz k len → ∃ rows, f' (.row n) = .rowc k rows ∧ rows.length = len ∧ cs'.size = sz ∧ h b = .none ∧ RowsAt h cs' 0 k rows)
    (hbox : ∀ sz, f (.live n) = .lbox sz → β n = .box b sz → cs'.size = sz ∧ h b = .none ∧ ∀ c, c < sz → isDef (f' (.cell n c)) = true → ∃ v, cs'[c]? = some v ∧ SimC h β (f' (.cell n c)) v) :
    Sim G E f' h β a w' := by
  have hh : h b = .none := by
    rcases hown with ⟨q, sz, k, len, e⟩ | ⟨s, q, sz, e⟩
    · obtain ⟨_, _, _, _, r⟩ := hrow sz k len q e; exact r.1
    · obtain ⟨b', e', c, T', r⟩ := hs.boxes n s q
      rw [e] at e'; simp at e'; obtain ⟨rfl, rfl⟩ := e'; exact r.2.2.1
  have hin := hs.own n b hown
  have key : ∀ m x, OwnB f' β m x ↔ OwnB f β m x := fun m x => by unfold OwnB; rw [g1]
  have nb : ∀ m x, m ≠ n → OwnB f β m x → x ≠ b := fun m x e ho q => e (hs.inj m n b (q ▸ ho) hown)
  refine { glob := hs.glob, on := ?_, fr := ?_, le0 := hs.le0, fresh := hs.fresh, old := hs.old, size := hs.size, defers := hs.defers, tmps := fun t => by rw [g4]; exact hs.tmps t, ghost := fun t => by rw [g5]; exact hs.ghost t, free := fun m => by rw [g1]; exact hs.free m, rows := fun m fr hm => ?_, boxes := fun m s hm => ?_, inj := fun m m' x q1 q2 => hs.inj m m' x ((key _ _).1 q1) ((key _ _).1 q2), own := fun m x q => hs.own m x ((key _ _).1 q) }
  · intro x o hx
    rw [hk x (fun e => by rw [e, hh] at hx; cases hx)]; exact hs.on x o hx
  · have hf := hs.fr
    refine ⟨h2.trans hf.os, h3.trans hf.tape, h4.trans hf.output, by rw [h5]; exact hf.size, fun x hx hn => ?_, fun x c T' hx hm => ?_⟩
    · rw [hk x (fun e => by subst e; rcases hin with hi | hi; exact hn hi; omega)]; exact hf.keep x hx hn
    · obtain ⟨c', e1, e2⟩ := hf.shape x c T' hx hm
      by_cases e : x = b
      · subst e
        rw [hb] at e1
        simp only [Option.some.injEq, Obj.cells.injEq] at e1
        obtain ⟨rfl, rfl, _⟩ := e1
        exact ⟨cs', hb', hsz.trans e2⟩
      · exact ⟨c', by rw [hk x e]; exact e1, e2⟩
  · rw [g1] at hm
    obtain ⟨b', sz, k, rows, e1, e2, e3⟩ := hs.rows m fr hm
    by_cases e : m = n
    · subst e
      cases fr with
      | true => rcases hown with ⟨q, _⟩ | ⟨_, q, _⟩ <;> rw [hm] at q <;> simp at q
      | false =>
        rcases hown with ⟨q, sz', k', len, e'⟩ | ⟨_, q, _⟩
        · obtain ⟨rows', r1, r2, r3⟩ := hrow sz' k' len q e'
          exact ⟨some b, sz', k', rows', by rw [e', r2], r1, cs', T, hb', r3⟩
        · rw [hm] at q; simp at q
    · refine ⟨b', sz, k, rows, e1, by rw [g2 m e]; exact e2, ?_⟩
      cases b' with
      | none => exact e3
      | some b' =>
        cases fr with
        | true => exact e3
        | false =>
          obtain ⟨c, T', q1, q2⟩ := e3
          exact ⟨c, T', by rw [hk _ (nb m b' e (.inl ⟨hm, _, _, _, e1⟩))]; exact q1, q2⟩
  · rw [g1] at hm
    obtain ⟨b', e1, c, T', q1, q2, q3, q4⟩ := hs.boxes m s hm
    by_cases e : m = n
    · subst e
      rcases hown with ⟨q, _⟩ | ⟨s', q, sz, e'⟩
      · rw [hm] at q; simp at q
      · rw [e1] at e'; simp at e'; obtain ⟨rfl, rfl⟩ := e'
        exact ⟨b', e1, cs', T, hb', hbox s hm e1⟩
    · refine ⟨b', e1, c, T', by rw [hk _ (nb m b' e (.inr ⟨_, hm, _, e1⟩))]; exact q1, q2, q3, fun c' hlt hc => ?_⟩
      rw [g3 m c' e] at hc ⊢; exact q4 c' hlt hc
/-- What is forgotten does no harm. -/
theorem Sim.forget (hs : Sim G E f h β a w) {f' : LF} (h1 : ∀ p, f' p = f p ∨ ((∃ u, p = .tmp u) ∧ f' p = .undef)) : Sim G E f' h β a w := by
  have hp : ∀ p, (∀ u, p ≠ .tmp u) → f' p = f p := fun p hp => (h1 p).resolve_right fun ⟨⟨u, hu⟩, _⟩ => hp u hu
  have key : ∀ m x, OwnB f' β m x ↔ OwnB f β m x := fun m x => by unfold OwnB; rw [hp _ (by simp)]
  refine { glob := hs.glob, on := hs.on, fr := hs.fr, le0 := hs.le0, fresh := hs.fresh, old := hs.old, size := hs.size, defers := hs.defers, tmps := fun t => ?_, ghost := fun t => by rw [hp _ (by simp)]; exact hs.ghost t, free := fun m => by rw [hp _ (by simp)]; exact hs.free m, rows := fun m fr => by rw [hp _ (by simp), hp (.row m) (by simp)]; exact hs.rows m fr, boxes := fun m s hm => ?_, inj := fun m m' x q1 q2 => hs.inj m m' x ((key _ _).1 q1) ((key _ _).1 q2), own := fun m x q => hs.own m x ((key _ _).1 q) }
  · rcases h1 (.tmp t) with e | ⟨_, e⟩
    · rw [e]; exact hs.tmps t
    · rw [e]; exact trivial
  · rw [hp _ (by simp)] at hm
    obtain ⟨b', e1, c, T', q1, q2, q3, q4⟩ := hs.boxes m s hm
    refine ⟨b', e1, c, T', q1, q2, q3, fun c' hlt hc => ?_⟩
    rw [hp _ (by simp)] at hc ⊢; exact q4 c' hlt hc
end
end Go.Proofs.YtaklcemgpinleaaDoor
