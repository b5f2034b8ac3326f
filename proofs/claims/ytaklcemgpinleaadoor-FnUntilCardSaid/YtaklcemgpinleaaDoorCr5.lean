/- A call, seen from the caller: lemmas of the layer, on no condition. -/
import Derived.Test.YtaklcemgpinleaaDoorCr4
namespace Go.Proofs.YtaklcemgpinleaaDoor
open Go
set_option linter.unusedSimpArgs false
set_option linter.unusedVariables false
set_option linter.unnecessarySimpa false
set_option linter.unusedSectionVars false
section
variable {G : Nat → Option Rows} {E : Env} {f : LF} {h : IH} {β : BM} {a : Act} {w : World}
/-- Behind a call that had only what was nobody's. -/
theorem Sim.called (hs : Sim G E f h β a w) {bs : List Nat} (hl : ∀ b ∈ bs, Loose E f β h b) {h' : IH} {w' : World} (hle : h.le h') (hon : h'.on w')
    (hnew : ∀ b o, h' b = some o → h b = some o ∨ b ∈ bs ∨ w.heap.size ≤ b) (hfr : Fr w w' bs) : Sim G E f h' β a w' := by
  have hin : ∀ {b x}, w.heap[b]? = some x → b < w.heap.size := fun hb => by
    obtain ⟨hlt, _⟩ := Array.getElem?_eq_some_iff.1 hb; exact hlt
  have hkeep : ∀ {b x}, w.heap[b]? = some x → b ∉ bs → w'.heap[b]? = some x := fun hb hn => by rw [hfr.keep _ (hin hb) hn]; exact hb
  have hnone : ∀ {b x}, w.heap[b]? = some x → b ∉ bs → h b = none → h' b = none := fun {b x} hb hn hh => by
    cases hq : h' b with
    | none => rfl
    | some o =>
      rcases hnew b o hq with q | q | q
      · rw [hh] at q; cases q
      · exact absurd q hn
      · have := hin hb; omega
  have hf := hs.fr
  refine { glob := hs.glob, on := hon, fr := ?_, le0 := IH.le_trans hs.le0 hle, fresh := fun b o hb => ?_, old := hs.old, size := hs.size, defers := hs.defers, tmps := fun t => (hs.tmps t).mono hle (BM.le_refl β), ghost := fun t => (hs.ghost t).mono hle (BM.le_refl β), free := hs.free, rows := fun n fr hn => ?_, boxes := fun n s hn => ?_, inj := hs.inj, own := hs.own }
  · refine ⟨hfr.os.trans hf.os, hfr.tape.trans hf.tape, hfr.output.trans hf.output, Nat.le_trans hf.size hfr.size, fun b hb hn => ?_, fun b cs T hb hm => ?_⟩
    · rw [hfr.keep b (Nat.lt_of_lt_of_le hb hf.size) (fun q => by rcases (hl b q).2.2 with r | r; exact hn r; omega)]; exact hf.keep b hb hn
    · obtain ⟨c1, e1, e2⟩ := hf.shape b cs T hb hm
      by_cases q : b ∈ bs
      · obtain ⟨c2, e3, e4⟩ := hfr.shape b c1 T e1 q
        exact ⟨c2, e3, e4.trans e2⟩
      · exact ⟨c1, hkeep e1 q, e2⟩
  · rcases hnew b o hb with q | q | q
    · exact hs.fresh b o q
    · exact .inr (hl b q).2.2
    · exact .inr (.inr (Nat.le_trans hf.size q))
  · obtain ⟨b, sz, k, rows, e1, e2, e3⟩ := hs.rows n fr hn
    refine ⟨b, sz, k, rows, e1, e2, ?_⟩
    cases b with
    | none => exact e3
    | some b =>
      cases fr with
      | true => obtain ⟨cs, T, z, q1, q2⟩ := e3; exact ⟨cs, T, z, hle _ _ q1, q2.mono hle⟩
      | false =>
        obtain ⟨cs, T, q1, q2, q3, q4⟩ := e3
        have hn' : b ∉ bs := fun q => (hl b q).2.1 n (.inl ⟨hn, _, _, _, e1⟩)
        exact ⟨cs, T, hkeep q1 hn', q2, hnone q1 hn' q3, q4.mono hle⟩
  · obtain ⟨b, e1, cs, T, q1, q2, q3, q4⟩ := hs.boxes n s hn
    have hn' : b ∉ bs := fun q => (hl b q).2.1 n (.inr ⟨_, hn, _, e1⟩)
    refine ⟨b, e1, cs, T, hkeep q1 hn', q2, hnone q1 hn' q3, fun c hlt hc => ?_⟩
    obtain ⟨v, r1, r2⟩ := q4 c hlt hc
    exact ⟨v, r1, r2.mono hle (BM.le_refl β)⟩

/-! ## What comes back -/
def BackC (x y o : AV) (w1 i1 : Ws) : Prop :=
  i1 = [] ∧ (w1 = [] ∨ (∃ n e0 e old rows, x = .own n e0 ∧ y = .vec e old ∧ o = .vec e rows ∧ w1 = [(.live n, .lrow false), (.row n, .rowc e rows)]) ∨
    ∃ n e0 i0 l0 e old i m rows i' m', x = .part n e0 i0 l0 ∧ y = .vecp e old i m ∧ o = .vecp e rows i' m' ∧ rows.length = old.length ∧ w1 = [(.live n, .lrow false), (.row n, .rowc e rows)])
def BackL : List AV → List AV → List AV → Ws → Ws → Prop
  | x :: xs, y :: ys, o :: os, w, i => ∃ w1 i1 w2 i2, BackC x y o w1 i1 ∧ BackL xs ys os w2 i2 ∧ w = w1 ++ w2 ∧ i = i1 ++ i2
  | _, _, _, w, i => w = [] ∧ i = []
def BackT (m : Nm) (x y o : AV) (w i : Ws) : Prop :=
  (w = [] ∧ i = []) ∨ BackC x y o w i ∨ (∃ cs ys os, x = .agg cs ∧ y = .agg ys ∧ o = .agg os ∧ BackL cs ys os w i) ∨
    ∃ n c ys os, x = .ptr n c ∧ y = .box ys ∧ o = .box os ∧ w = (impCs m 0 os).2 ++ ((.live n, .lbox os.length) :: cellsW n 0 (impCs m 0 os).1) ∧ i = (impCs m 0 os).2
def BackTL (m : Nm) : Nat → List AV → List AV → List AV → Ws → Ws → Prop
  | c, x :: xs, y :: ys, o :: os, w, i => ∃ w1 i1 w2 i2, BackT (.sub m c) x y o w1 i1 ∧ BackTL m (c + 1) xs ys os w2 i2 ∧ w = w1 ++ w2 ∧ i = i1 ++ i2
  | _, _, _, _, w, i => w = [] ∧ i = []
def BackR (m : Nm) (x y o : AV) (w i : Ws) : Prop :=
  BackT m x y o w i ∨ ∃ g xs g' ys g'' os, x = .fn g xs ∧ y = .fn g' ys ∧ o = .fn g'' os ∧ BackTL m 0 xs ys os w i
def BackA (m : Nm) : Nat → List AV → List AV → List AV → Ws → Ws → Prop
  | c, x :: xs, y :: ys, o :: os, w, i => ∃ w1 i1 w2 i2, BackR (.sub m c) x y o w1 i1 ∧ BackA m (c + 1) xs ys os w2 i2 ∧ w = w1 ++ w2 ∧ i = i1 ++ i2
  | _, _, _, _, w, i => w = [] ∧ i = []
theorem backC_ev {x y o : AV} {k : Ws → Ws → Rd} {ws : Ws} (h : (backC x y o k).ev f ws) : ∃ w1 i1, (k w1 i1).ev f ws ∧ BackC x y o w1 i1 := by
  unfold backC at h
  split at h
  · obtain ⟨hb, h⟩ := bif_fail_ev h
    have := Nat.eq_of_beq_eq_true hb; subst this
    exact ⟨_, _, h, rfl, .inr (.inl ⟨_, _, _, _, _, rfl, rfl, rfl, rfl⟩)⟩
  · obtain ⟨hb, h⟩ := bif_fail_ev h
    have := Nat.eq_of_beq_eq_true hb; subst this
    exact ⟨_, _, h.2, rfl, .inr (.inr ⟨_, _, _, _, _, _, _, _, _, _, _, rfl, rfl, rfl, h.1, rfl⟩)⟩
  · exact ⟨_, _, h, rfl, .inl rfl⟩
theorem backCs_ev : ∀ {xs ys os : List AV} {k : Ws → Ws → Rd} {ws : Ws}, (backCs xs ys os k).ev f ws → ∃ w1 i1, (k w1 i1).ev f ws ∧ BackL xs ys os w1 i1
  | x :: xs, y :: ys, o :: os, k, ws, h => by
    simp only [backCs] at h
    obtain ⟨w1, i1, h, b1⟩ := backC_ev h
    obtain ⟨w2, i2, h, b2⟩ := backCs_ev h
    exact ⟨_, _, h, _, _, _, _, b1, b2, rfl, rfl⟩
  | [], _, _, k, ws, h => ⟨_, _, by simpa only [backCs] using h, by simp [BackL]⟩
  | _ :: _, [], _, k, ws, h => ⟨_, _, by simpa only [backCs] using h, by simp [BackL]⟩
  | _ :: _, _ :: _, [], k, ws, h => ⟨_, _, by simpa only [backCs] using h, by simp [BackL]⟩
theorem backT_ev {m : Nm} {x y o : AV} {k : Ws → Ws → Rd} {ws : Ws} (h : (backT m x y o k).ev f ws) : ∃ w1 i1, (k w1 i1).ev f ws ∧ BackT m x y o w1 i1 := by
  unfold backT at h
  split at h
  · obtain ⟨w1, i1, h, b⟩ := backCs_ev h; exact ⟨w1, i1, h, .inr (.inr (.inl ⟨_, _, _, rfl, rfl, rfl, b⟩))⟩
  · exact ⟨_, _, h, .inr (.inr (.inr ⟨_, _, _, _, rfl, rfl, rfl, rfl, rfl⟩))⟩
  · obtain ⟨w1, i1, h, b⟩ := backC_ev h; exact ⟨w1, i1, h, .inr (.inl b)⟩
  · obtain ⟨w1, i1, h, b⟩ := backC_ev h; exact ⟨w1, i1, h, .inr (.inl b)⟩
  · exact ⟨_, _, h, .inl ⟨rfl, rfl⟩⟩
theorem backTs_ev {m : Nm} : ∀ {xs ys os : List AV} {c : Nat} {k : Ws → Ws → Rd} {ws : Ws}, (backTs m c xs ys os k).ev f ws → ∃ w1 i1, (k w1 i1).ev f ws ∧ BackTL m c xs ys os w1 i1
  | x :: xs, y :: ys, o :: os, c, k, ws, h => by
    simp only [backTs] at h
    obtain ⟨w1, i1, h, b1⟩ := backT_ev h
    obtain ⟨w2, i2, h, b2⟩ := backTs_ev h
    exact ⟨_, _, h, _, _, _, _, b1, b2, rfl, rfl⟩
  | [], _, _, _, k, ws, h => ⟨_, _, by simpa only [backTs] using h, by simp [BackTL]⟩
  | _ :: _, [], _, _, k, ws, h => ⟨_, _, by simpa only [backTs] using h, by simp [BackTL]⟩
  | _ :: _, _ :: _, [], _, k, ws, h => ⟨_, _, by simpa only [backTs] using h, by simp [BackTL]⟩
theorem backR_ev {m : Nm} {x y o : AV} {k : Ws → Ws → Rd} {ws : Ws} (h : (backR m x y o k).ev f ws) : ∃ w1 i1, (k w1 i1).ev f ws ∧ BackR m x y o w1 i1 := by
  unfold backR at h
  split at h
  · obtain ⟨w1, i1, h, b⟩ := backTs_ev h; exact ⟨w1, i1, h, .inr ⟨_, _, _, _, _, _, rfl, rfl, rfl, b⟩⟩
  · exact ⟨_, _, h, .inl (.inl ⟨rfl, rfl⟩)⟩
  · exact (fail_ev.1 h).elim
  · obtain ⟨w1, i1, h, b⟩ := backT_ev h; exact ⟨w1, i1, h, .inl b⟩
theorem backArgs_ev {m : Nm} : ∀ {xs ys os : List AV} {c : Nat} {k : Ws → Ws → Rd} {ws : Ws}, (backArgs m c xs ys os k).ev f ws → ∃ w1 i1, (k w1 i1).ev f ws ∧ BackA m c xs ys os w1 i1
  | x :: xs, y :: ys, o :: os, c, k, ws, h => by
    simp only [backArgs] at h
    obtain ⟨w1, i1, h, b1⟩ := backR_ev h
    obtain ⟨w2, i2, h, b2⟩ := backArgs_ev h
    exact ⟨_, _, h, _, _, _, _, b1, b2, rfl, rfl⟩
  | [], _, _, _, k, ws, h => ⟨_, _, by simpa only [backArgs] using h, by simp [BackA]⟩
  | _ :: _, [], _, _, k, ws, h => ⟨_, _, by simpa only [backArgs] using h, by simp [BackA]⟩
  | _ :: _, _ :: _, [], _, k, ws, h => ⟨_, _, by simpa only [backArgs] using h, by simp [BackA]⟩

/-- What a name that was handed over still tells. -/
def KeepN (f0 : LF) (β : BM) (w : World) (n : Nm) : Prop :=
  match β n with
  | .row b sz k len => (∃ rows, f0 (.row n) = .rowc k rows ∧ rows.length = len) ∧ (match b with | none => sz = 0 ∧ len = 0 | some b => ∀ cs T, w.heap[b]? = some (.cells cs T (0, 0)) → cs.size = sz)
  | .box b sz => ∀ cs T, w.heap[b]? = some (.cells cs T (0, 0)) → cs.size = sz
  | .none => False
theorem KeepN.mono {f0 : LF} {β β' : BM} {w : World} {n : Nm} (hle : BM.le β β') (hk : KeepN f0 β w n) : KeepN f0 β' w n := by
  have hn : β n ≠ .none := fun e => by simp [KeepN, e] at hk
  unfold KeepN at *; rw [hle n hn]; exact hk
theorem liveN_append : ∀ (xs ys : Ws), liveN (xs ++ ys) = liveN xs ++ liveN ys
  | [], _ => rfl
  | (.live n, _) :: xs, ys => by simp [liveN, liveN_append xs ys]
  | (.tmp n, _) :: xs, ys => by simp [liveN, liveN_append xs ys]
  | (.row n, _) :: xs, ys => by simp [liveN, liveN_append xs ys]
  | (.gh n, _) :: xs, ys => by simp [liveN, liveN_append xs ys]
  | (.cell n c, _) :: xs, ys => by simp [liveN, liveN_append xs ys]
theorem mem_liveN {n : Nm} : ∀ {ws : Ws}, n ∈ liveN ws ↔ ∃ x, (Pl.live n, x) ∈ ws
  | [] => by simp [liveN]
  | (.live m, y) :: ws => by
    simp only [liveN, List.mem_cons, mem_liveN (ws := ws), Prod.mk.injEq, Pl.live.injEq]
    constructor
    · rintro (e | ⟨x, e⟩)
      · exact ⟨y, .inl ⟨e, rfl⟩⟩
      · exact ⟨x, .inr e⟩
    · rintro ⟨x, ⟨e, _⟩ | e⟩
      · exact .inl e
      · exact .inr ⟨x, e⟩
  | (.tmp m, y) :: ws => by simp [liveN, mem_liveN (ws := ws)]
  | (.row m, y) :: ws => by simp [liveN, mem_liveN (ws := ws)]
  | (.gh m, y) :: ws => by simp [liveN, mem_liveN (ws := ws)]
  | (.cell m c, y) :: ws => by simp [liveN, mem_liveN (ws := ws)]
theorem updL_live {n : Nm} {ws : Ws} (hn : n ∉ liveN ws) (g : LF) : updL g ws (.live n) = g (.live n) :=
  updL_other fun x hx e => hn (mem_liveN.2 ⟨x.2, by rw [← e]; exact hx⟩)
/-- The outcome of a part's coming back. -/
structure Backed (G : Nat → Option Rows) (E : Env) (g : LF) (h : IH) (β : BM) (a : Act) (w : World) (ws im : Ws) (ns : List Nm) (ob : List Nat) : Prop where
  took : ∃ β', Took G E g h β a w (updL g ws) β' ob
  names : ∀ n ∈ liveN ws, n ∈ ns ∨ n ∈ liveN im
theorem Backed.nothing {g : LF} (hs : Sim G E g h β a w) (ns : List Nm) (ob : List Nat) : Backed G E g h β a w [] [] ns ob :=
  ⟨⟨β, hs, BM.le_refl β, fun _ _ => .inl⟩, by simp [liveN]⟩
theorem BackC.ok {f0 g : LF} {h1 : IH} {β0 : BM} {x y o : AV} {v : Value} {ns zs : List Nm} {ob : List Nat} {w1 i1 : Ws} (hbk : BackC x y o w1 i1) (hs : Sim G E g h β a w) (hx : ExpC f0 x y ns zs) (hv : SimC h1 β0 x v) (hle : BM.le β0 β)
    (hk : ∀ n ∈ ns, KeepN f0 β w n ∧ g (.live n) = .skip) (hr : RelC h w o v ob) (hb : ∀ b ∈ ob, Loose E g β h b) : Backed G E g h β a w w1 i1 ns ob := by
  obtain ⟨rfl, hbk⟩ := hbk
  have main : ∀ {n e rows ns'}, n ∈ ns → ns' = ns → w1 = [(Pl.live n, AV.lrow false), (.row n, .rowc e rows)] → (∃ b sz len, β n = .row b sz e len ∧ len = rows.length ∧
      ((b = none ∧ rows = []) ∨ ∃ b' cs T, b = some b' ∧ b' ∈ ob ∧ w.heap[b']? = some (.cells cs T (0, 0)) ∧ RowsAt h cs 0 e rows)) → Backed G E g h β a w w1 [] ns ob := by
    intro n e rows ns' hn _ hw hh
    subst hw
    obtain ⟨b, sz, len, q1, rfl, q2⟩ := hh
    obtain ⟨k1, k2⟩ := hk n hn
    refine ⟨?_, fun m hm => by simp [liveN] at hm; subst hm; exact .inl hn⟩
    simp only [KeepN, q1] at k1
    rcases q2 with ⟨rfl, rfl⟩ | ⟨b', cs, T, rfl, r1, r2, r3⟩
    · obtain ⟨_, rfl, _⟩ := k1
      refine ⟨_, hs.adoptNil (.inr ⟨k2, q1⟩), le_of_free hs (.inr ⟨k2, q1⟩), fun m x ho => ?_⟩
      by_cases e' : m = n
      · subst e'
        rcases ho with ⟨_, _, _, _, q⟩ | ⟨_, q, _⟩
        · simp [BM.set] at q
        · simp [upd, updL] at q
      · exact .inl (ho.upd_of e' (by simp [upd, updL, e']))
    · obtain ⟨l1, l2, l3⟩ := hb b' r1
      have hsz := k1.2 cs T r2
      refine ⟨_, hs.adoptRow (.inr ⟨k2, q1⟩) r2 hsz l1 l2 l3 r3, le_of_free hs (.inr ⟨k2, q1⟩), fun m x ho => ?_⟩
      by_cases e' : m = n
      · subst e'
        rcases ho with ⟨_, _, _, _, q⟩ | ⟨_, q, _⟩
        · simp [BM.set] at q; exact .inr (q.1 ▸ r1)
        · simp [upd, updL] at q
      · exact .inl (ho.upd_of e' (by simp [upd, updL, e']))
  rcases hbk with rfl | ⟨n, e0, e, old, rows, rfl, rfl, rfl, hw⟩ | ⟨n, e0, i0, l0, e, old, i, m, rows, i', m', rfl, rfl, rfl, hlen, hw⟩
  · exact Backed.nothing hs ns ob
  · obtain ⟨fr, k, rows0, e1, e2, e3⟩ := hx
    rcases e3 with ⟨rfl, e4, rfl, rfl⟩ | ⟨e4, _⟩
    · simp only [AV.vec.injEq] at e4; obtain ⟨rfl, rfl⟩ := e4
      obtain ⟨b, sz, len, cap, q1, rfl, q3, q4, q5⟩ := hv
      have hβ : β n = .row b sz e0 len := by rw [hle n (by simp [q1]), q1]
      have k1 := (hk n (by simp)).1
      simp only [KeepN, hβ] at k1
      obtain ⟨⟨rows1, p1, p2⟩, k1⟩ := k1
      rw [e2] at p1; simp only [AV.rowc.injEq] at p1; obtain ⟨rfl, rfl⟩ := p1
      refine main (by simp) rfl hw ⟨b, sz, len, hβ, ?_, ?_⟩
      · rcases hr with ⟨rfl, r2, rfl⟩ | ⟨b', cap', cs, T, r1, rfl, r2, r3, r4, r5⟩
        · simp at r2; exact r2.2.1
        · simp at r1; exact r1.2.1
      · rcases hr with ⟨rfl, r2, rfl⟩ | ⟨b', cap', cs, T, r1, rfl, r2, r3, r4, r5⟩
        · left; cases b <;> simp at r2 ⊢
        · right
          cases b with
          | none => simp at r1
          | some b => simp at r1; exact ⟨b, cs, T, rfl, by simp [r1.1], by rw [r1.1]; exact r2, r5⟩
    · cases e4
  · obtain ⟨fr, k, rows0, e1, e2, e3⟩ := hx
    rcases e3 with ⟨rfl, e4, rfl, rfl⟩ | ⟨e4, _⟩
    · simp only [AV.vecp.injEq] at e4; obtain ⟨rfl, rfl, rfl, rfl⟩ := e4
      obtain ⟨b, sz, len, cap, off, q1, rfl, q3, q4, q5, q6, q7, q8⟩ := hv
      have hβ : β n = .row b sz e0 len := by rw [hle n (by simp [q1]), q1]
      have k1 := (hk n (by simp)).1
      simp only [KeepN, hβ] at k1
      obtain ⟨⟨rows1, p1, p2⟩, k1⟩ := k1
      rw [e2] at p1; simp only [AV.rowc.injEq] at p1; obtain ⟨rfl, rfl⟩ := p1
      refine main (by simp) rfl hw ⟨b, sz, len, hβ, by rw [hlen, p2], ?_⟩
      rcases hr with ⟨rfl, _, _, r2, rfl⟩ | ⟨b', off', cap', cs, T, r1, rfl, r2, _, _, _, _, _, r5⟩
      · left
        cases b with
        | none => exact ⟨rfl, rfl⟩
        | some b => simp at r2
      · right
        cases b with
        | none => simp at r1
        | some b => simp at r1; exact ⟨b, cs, T, rfl, by simp [r1.1], by rw [r1.1.1]; exact r2, r5⟩
    · cases e4
theorem Backed.seq {g : LF} {w1 w2 i1 i2 : Ws} {n1 n2 : List Nm} {o1 o2 : List Nat} (b1 : Backed G E g h β a w w1 i1 n1 o1)
    (hn : (n1 ++ n2).Nodup) (hi : (liveN (i1 ++ i2)).Nodup) (hsk : ∀ n ∈ n1 ++ n2, g (.live n) = .skip) (hf : ∀ n ∈ liveN (i1 ++ i2), g (.live n) = .undef)
    (next : ∀ β', Took G E g h β a w (updL g w1) β' o1 → (∀ n ∈ n2, updL g w1 (.live n) = .skip) → (∀ n ∈ liveN i2, updL g w1 (.live n) = .undef) → Backed G E (updL g w1) h β' a w w2 i2 n2 o2) :
    Backed G E g h β a w (w1 ++ w2) (i1 ++ i2) (n1 ++ n2) (o1 ++ o2) := by
  obtain ⟨⟨β', t1⟩, l1⟩ := b1
  rw [liveN_append] at hi hf
  have hs2 : ∀ n ∈ n2, updL g w1 (.live n) = .skip := fun n hm => by
    rw [updL_live (fun q => ?_), hsk n (List.mem_append_right _ hm)]
    rcases l1 n q with r | r
    · exact (List.nodup_append.1 hn).2.2 n r n hm rfl
    · have := hf n (List.mem_append_left _ r); rw [hsk n (List.mem_append_right _ hm)] at this; cases this
  have hf2 : ∀ n ∈ liveN i2, updL g w1 (.live n) = .undef := fun n hm => by
    rw [updL_live (fun q => ?_), hf n (List.mem_append_right _ hm)]
    rcases l1 n q with r | r
    · have := hf n (List.mem_append_right _ hm); rw [hsk n (List.mem_append_left _ r)] at this; cases this
    · exact (List.nodup_append.1 hi).2.2 n r n hm rfl
  obtain ⟨⟨β2, t2⟩, l2⟩ := next β' t1 hs2 hf2
  refine ⟨⟨β2, by rw [updL_append]; exact t1.trans t2⟩, fun n hm => ?_⟩
  rw [liveN_append] at hm ⊢
  rcases List.mem_append.1 hm with q | q
  · rcases l1 n q with r | r <;> simp [r]
  · rcases l2 n q with r | r <;> simp [r]
theorem Backed.none {g : LF} (hs : Sim G E g h β a w) {ws im : Ws} (h1 : ws = []) (h2 : im = []) (ns : List Nm) (ob : List Nat) : Backed G E g h β a w ws im ns ob := by
  subst h1; subst h2; exact Backed.nothing hs ns ob
theorem BackL.ok {f0 : LF} {h1 : IH} {β0 : BM} : ∀ {xs ys os : List AV} {vs : List Value} {ns zs : List Nm} {ob : List Nat} {ws im : Ws} {g : LF} {β : BM}, BackL xs ys os ws im → Sim G E g h β a w → ExpL f0 xs ys ns zs → SimL h1 β0 xs vs → BM.le β0 β →
    (∀ n ∈ ns, KeepN f0 β w n ∧ g (.live n) = .skip) → RelL h w os vs ob → ob.Nodup → ns.Nodup → (∀ b ∈ ob, Loose E g β h b) → (liveN im).Nodup → (∀ n ∈ liveN im, g (.live n) = .undef) → Backed G E g h β a w ws im ns ob
  | x :: xs, ys, o :: os, v :: vs, ns, zs, ob, ws, im, g, β, hbk, hs, hx, hv, hle, hk, hr, hob, hns, hb, hi, hf => by
    obtain ⟨y, ys', n1, n2, z1, z2, e1, e2, rfl, rfl, rfl⟩ := hx
    obtain ⟨w1, i1, w2, i2, k1, k2, rfl, rfl⟩ := hbk
    obtain ⟨b1, b2, r1, r2, rfl⟩ := hr
    refine Backed.seq (k1.ok hs e1 hv.1 hle (fun n hm => hk n (by simp [hm])) r1 (fun b hm => hb b (by simp [hm]))) hns hi (fun n hm => (hk n hm).2) hf (fun β' t q1 q2 => ?_)
    refine BackL.ok k2 t.sim e2 hv.2 (fun n hn => by rw [t.le n (by rw [hle n hn]; exact hn), hle n hn]) (fun n hm => ⟨(hk n (by simp [hm])).1.mono t.le, q1 n hm⟩) r2 (List.nodup_append.1 hob).2.1 (List.nodup_append.1 hns).2.1
      (fun b hm => (hb b (by simp [hm])).after t (nodup_append_not hob hm)) (by rw [liveN_append] at hi; exact (List.nodup_append.1 hi).2.1) q2
  | [], _, _, _, ns, _, ob, ws, im, g, β, hbk, hs, _, _, _, _, _, _, _, _, _, _ => by simp only [BackL] at hbk; exact Backed.none hs hbk.1 hbk.2 ns ob
  | x :: xs, [], _, _, ns, _, ob, ws, im, g, β, hbk, hs, _, _, _, _, _, _, _, _, _, _ => by simp only [BackL] at hbk; exact Backed.none hs hbk.1 hbk.2 ns ob
  | x :: xs, y :: ys, [], _, ns, _, ob, ws, im, g, β, hbk, hs, _, _, _, _, _, _, _, _, _, _ => by simp only [BackL] at hbk; exact Backed.none hs hbk.1 hbk.2 ns ob
  | x :: xs, y :: ys, o :: os, [], ns, _, ob, ws, im, g, β, hbk, hs, _, hv, _, _, _, _, _, _, _, _ => hv.elim
theorem BackT.ok {f0 g : LF} {h1 : IH} {β0 : BM} {m : Nm} {x y o : AV} {v : Value} {ns zs : List Nm} {ob : List Nat} {ws im : Ws} (hbk : BackT m x y o ws im) (hs : Sim G E g h β a w) (hx : ExpT f0 x y ns zs) (hv : SimT h1 β0 x v) (hle : BM.le β0 β)
    (hk : ∀ n ∈ ns, KeepN f0 β w n ∧ g (.live n) = .skip) (hr : RelT h w o v ob) (hob : ob.Nodup) (hns : ns.Nodup) (hb : ∀ b ∈ ob, Loose E g β h b) (hi : (liveN im).Nodup) (hf : ∀ n ∈ liveN im, g (.live n) = .undef) : Backed G E g h β a w ws im ns ob := by
  rcases hbk with ⟨rfl, rfl⟩ | hbk | ⟨cs, ys, os, rfl, rfl, rfl, hbk⟩ | ⟨n, c, ys, os, rfl, rfl, rfl, rfl, rfl⟩
  · exact Backed.nothing hs ns ob
  · have hbk0 := hbk
    obtain ⟨rfl, hbk⟩ := hbk
    rcases hbk with rfl | ⟨n, e0, e, old, rows, rfl, rfl, rfl, hw⟩ | ⟨n, e0, i0, l0, e, old, i, m, rows, i', m', rfl, rfl, rfl, hlen, hw⟩
    · exact Backed.nothing hs ns ob
    · exact hbk0.ok (h1 := h1) hs hx hv hle hk hr hb
    · exact hbk0.ok (h1 := h1) hs hx hv hle hk hr hb
  · obtain ⟨ys', hx, e⟩ := hx
    simp only [AV.agg.injEq] at e; subst e
    obtain ⟨vs, rfl, hv⟩ := hv
    obtain ⟨vs', e, hr⟩ := hr
    simp only [Value.agg.injEq] at e; subst e
    exact hbk.ok hs hx hv hle hk hr hob hns hb hi hf
  · cases c with
    | succ c => exact hx.elim
    | zero =>
      obtain ⟨sz, ys', ns', q1, q2, q3, rfl⟩ := hx
      obtain ⟨b, sz', p1, rfl⟩ := hv
      obtain ⟨b', vs, T, bs', r1, r2, r3, rfl⟩ := hr
      simp only [Value.pointer.injEq, Option.some.injEq, Addr.mk.injEq, and_true] at r1; subst r1
      obtain ⟨hn1, hn2⟩ := List.nodup_cons.1 hob
      have hβ : β n = .box b sz' := by rw [hle n (by simp [p1]), p1]
      obtain ⟨k1, k2⟩ := hk n (by simp)
      simp only [KeepN, hβ] at k1
      have hsz := k1 vs T r2
      obtain ⟨β1, t1, s1⟩ := impCs_ok (n := m) (c := 0) hs r3 hn2 (fun b hm => hb b (by simp [hm])) (fun m y hm => hf m (mem_liveN.2 ⟨y, hm⟩))
      have hlen : os.length = vs.size := by simpa using r3.length
      have hlen1 : (impCs m 0 os).1.length = vs.size := by rw [impCs_length, hlen]
      have hl := (hb b (by simp)).after t1 hn1
      have hnm : n ∉ liveN (impCs m 0 os).2 := fun q => by have := hf n q; rw [k2] at this; cases this
      have hk2 : updL g (impCs m 0 os).2 (.live n) = .skip := by rw [updL_live hnm, k2]
      have hβ1 : β1 n = .box b vs.size := by rw [t1.le n (by simp [hβ]), hβ, hsz]
      have hfree : FreeN (updL g (impCs m 0 os).2) β1 n (.box b vs.size) := .inr ⟨hk2, hβ1⟩
      have hT := t1.sim.adoptBox (f' := updL g ((impCs m 0 os).2 ++ ((.live n, .lbox os.length) :: cellsW n 0 (impCs m 0 os).1))) (xs := (impCs m 0 os).1) hfree r2 hl.1 hl.2.1 hl.2.2 s1 (by
          rw [updL_append]; simp only [updL]
          rw [cellsW_look]
          simp [upd, hlen]) (fun c hc => by
          left
          rw [updL_append]; simp only [updL]
          rw [cellsW_look]
          simp only [Nat.zero_le, Nat.zero_add, true_and, Nat.sub_zero]
          rw [if_pos (by omega)]) (fun p h1 h2 => by
          rw [updL_append]; simp only [updL]
          rw [cellsW_look]
          cases p with
          | cell m j => simp only; rw [if_neg (fun q => h2 j (by rw [q.1]))]; simp [upd]
          | _ => simp [upd] at h1 ⊢ <;> (intro e; exact absurd e h1))
      refine ⟨⟨_, hT, fun q hq => ?_, fun q x ho => ?_⟩, fun q hq => ?_⟩
      · by_cases e : q = n
        · subst e; simp only [BM.set, if_true]; rw [hβ, hsz]
        · simp only [BM.set, e, if_false]; exact t1.le q hq
      · by_cases e : q = n
        · subst e
          rcases ho with ⟨o1, _⟩ | ⟨_, _, _, o1⟩
          · exfalso
            rw [updL_append] at o1; simp only [updL] at o1
            rw [cellsW_look] at o1
            simp [upd] at o1
          · simp [BM.set] at o1; exact .inr (by simp [o1.1])
        · have hl' : updL g ((impCs m 0 os).2 ++ ((.live n, .lbox os.length) :: cellsW n 0 (impCs m 0 os).1)) (.live q) = updL g (impCs m 0 os).2 (.live q) := by
            rw [updL_append]; simp only [updL]
            rw [cellsW_look]
            simp [upd, e]
          rcases t1.own q x (ho.upd_of e hl') with r | r
          · exact .inl r
          · exact .inr (by simp [r])
      · rw [liveN_append] at hq
        rcases List.mem_append.1 hq with r | r
        · exact .inr r
        · simp only [liveN, List.mem_cons] at r
          rcases r with r | r
          · exact .inl (by simp [r])
          · obtain ⟨z, hz⟩ := mem_liveN.1 r
            exact absurd hz (cellsW_no_live _ _ _ _ _)
theorem BackTL.ok {f0 : LF} {h1 : IH} {β0 : BM} {m : Nm} : ∀ {c : Nat} {xs ys os : List AV} {vs : List Value} {ns zs : List Nm} {ob : List Nat} {ws im : Ws} {g : LF} {β : BM}, BackTL m c xs ys os ws im → Sim G E g h β a w → ExpTL f0 xs ys ns zs → SimTL h1 β0 xs vs → BM.le β0 β →
    (∀ n ∈ ns, KeepN f0 β w n ∧ g (.live n) = .skip) → RelTL h w os vs ob → ob.Nodup → ns.Nodup → (∀ b ∈ ob, Loose E g β h b) → (liveN im).Nodup → (∀ n ∈ liveN im, g (.live n) = .undef) → Backed G E g h β a w ws im ns ob
  | c, x :: xs, ys, o :: os, v :: vs, ns, zs, ob, ws, im, g, β, hbk, hs, hx, hv, hle, hk, hr, hob, hns, hb, hi, hf => by
    obtain ⟨y, ys', n1, n2, z1, z2, e1, e2, rfl, rfl, rfl⟩ := hx
    obtain ⟨w1, i1, w2, i2, k1, k2, rfl, rfl⟩ := hbk
    obtain ⟨b1, b2, r1, r2, rfl⟩ := hr
    have hi' := hi; have hf' := hf
    rw [liveN_append] at hi' hf'
    refine Backed.seq (k1.ok hs e1 hv.1 hle (fun n hm => hk n (by simp [hm])) r1 (List.nodup_append.1 hob).1 (List.nodup_append.1 hns).1 (fun b hm => hb b (by simp [hm])) (List.nodup_append.1 hi').1 (fun n hm => hf' n (by simp [hm]))) hns hi (fun n hm => (hk n hm).2) hf (fun β' t q1 q2 => ?_)
    refine BackTL.ok k2 t.sim e2 hv.2 (fun n hn => by rw [t.le n (by rw [hle n hn]; exact hn), hle n hn]) (fun n hm => ⟨(hk n (by simp [hm])).1.mono t.le, q1 n hm⟩) r2 (List.nodup_append.1 hob).2.1 (List.nodup_append.1 hns).2.1
      (fun b hm => (hb b (by simp [hm])).after t (nodup_append_not hob hm)) (List.nodup_append.1 hi').2.1 q2
  | _, [], _, _, _, ns, _, ob, ws, im, g, β, hbk, hs, _, _, _, _, _, _, _, _, _, _ => by simp only [BackTL] at hbk; exact Backed.none hs hbk.1 hbk.2 ns ob
  | _, x :: xs, [], _, _, ns, _, ob, ws, im, g, β, hbk, hs, _, _, _, _, _, _, _, _, _, _ => by simp only [BackTL] at hbk; exact Backed.none hs hbk.1 hbk.2 ns ob
  | _, x :: xs, y :: ys, [], _, ns, _, ob, ws, im, g, β, hbk, hs, _, _, _, _, _, _, _, _, _, _ => by simp only [BackTL] at hbk; exact Backed.none hs hbk.1 hbk.2 ns ob
  | _, x :: xs, y :: ys, o :: os, [], ns, _, ob, ws, im, g, β, hbk, hs, _, hv, _, _, _, _, _, _, _, _ => hv.elim
theorem BackR.ok {f0 g : LF} {h1 : IH} {β0 : BM} {m : Nm} {x y o : AV} {v : Value} {ns zs : List Nm} {ob : List Nat} {ws im : Ws} (hbk : BackR m x y o ws im) (hs : Sim G E g h β a w) (hx : ExpR f0 x y ns zs) (hv : SimR h1 β0 x v) (hle : BM.le β0 β)
    (hk : ∀ n ∈ ns, KeepN f0 β w n ∧ g (.live n) = .skip) (hr : RelR h w o v ob) (hob : ob.Nodup) (hns : ns.Nodup) (hb : ∀ b ∈ ob, Loose E g β h b) (hi : (liveN im).Nodup) (hf : ∀ n ∈ liveN im, g (.live n) = .undef) : Backed G E g h β a w ws im ns ob := by
  rcases hbk with hbk | ⟨g', xs, g'', ys, g3, os, rfl, rfl, rfl, hbk⟩
  · have hbk0 := hbk
    rcases hbk with ⟨rfl, rfl⟩ | hbk | ⟨cs, ys, os, rfl, rfl, rfl, hbk⟩ | ⟨n, c, ys, os, rfl, rfl, rfl, rfl, rfl⟩
    · exact Backed.nothing hs ns ob
    · obtain ⟨rfl, hbk⟩ := hbk
      rcases hbk with rfl | ⟨n, e0, e, old, rows, rfl, rfl, rfl, hw⟩ | ⟨n, e0, i0, l0, e, old, i, m, rows, i', m', rfl, rfl, rfl, hlen, hw⟩
      · exact Backed.nothing hs ns ob
      · exact hbk0.ok (h1 := h1) hs hx hv hle hk hr hob hns hb hi hf
      · exact hbk0.ok (h1 := h1) hs hx hv hle hk hr hob hns hb hi hf
    · exact hbk0.ok (h1 := h1) hs hx hv hle hk hr hob hns hb hi hf
    · exact hbk0.ok (h1 := h1) hs hx hv hle hk hr hob hns hb hi hf
  · obtain ⟨ys', hx, e⟩ := hx
    simp only [AV.fn.injEq] at e; obtain ⟨_, rfl⟩ := e
    obtain ⟨vs, rfl, hv⟩ := hv
    obtain ⟨vs', e, hr⟩ := hr
    simp at e; obtain ⟨_, rfl⟩ := e
    exact hbk.ok hs hx hv hle hk hr hob hns hb hi hf
theorem BackA.ok {f0 : LF} {h1 : IH} {β0 : BM} {m : Nm} : ∀ {c : Nat} {xs ys os : List AV} {vs : List Value} {ns zs : List Nm} {ob : List Nat} {ws im : Ws} {g : LF} {β : BM}, BackA m c xs ys os ws im → Sim G E g h β a w → ExpA f0 xs ys ns zs → SimA h1 β0 xs vs → BM.le β0 β →
    (∀ n ∈ ns, KeepN f0 β w n ∧ g (.live n) = .skip) → RelA h w os vs ob → ob.Nodup → ns.Nodup → (∀ b ∈ ob, Loose E g β h b) → (liveN im).Nodup → (∀ n ∈ liveN im, g (.live n) = .undef) → Backed G E g h β a w ws im ns ob
  | c, x :: xs, ys, o :: os, v :: vs, ns, zs, ob, ws, im, g, β, hbk, hs, hx, hv, hle, hk, hr, hob, hns, hb, hi, hf => by
    obtain ⟨y, ys', n1, n2, z1, z2, e1, e2, rfl, rfl, rfl⟩ := hx
    obtain ⟨w1, i1, w2, i2, k1, k2, rfl, rfl⟩ := hbk
    obtain ⟨b1, b2, r1, r2, rfl⟩ := hr
    have hi' := hi; have hf' := hf
    rw [liveN_append] at hi' hf'
    refine Backed.seq (k1.ok hs e1 hv.1 hle (fun n hm => hk n (by simp [hm])) r1 (List.nodup_append.1 hob).1 (List.nodup_append.1 hns).1 (fun b hm => hb b (by simp [hm])) (List.nodup_append.1 hi').1 (fun n hm => hf' n (by simp [hm]))) hns hi (fun n hm => (hk n hm).2) hf (fun β' t q1 q2 => ?_)
    refine BackA.ok k2 t.sim e2 hv.2 (fun n hn => by rw [t.le n (by rw [hle n hn]; exact hn), hle n hn]) (fun n hm => ⟨(hk n (by simp [hm])).1.mono t.le, q1 n hm⟩) r2 (List.nodup_append.1 hob).2.1 (List.nodup_append.1 hns).2.1
      (fun b hm => (hb b (by simp [hm])).after t (nodup_append_not hob hm)) (List.nodup_append.1 hi').2.1 q2
  | _, [], _, _, _, ns, _, ob, ws, im, g, β, hbk, hs, _, _, _, _, _, _, _, _, _, _ => by simp only [BackA] at hbk; exact Backed.none hs hbk.1 hbk.2 ns ob
  | _, x :: xs, [], _, _, ns, _, ob, ws, im, g, β, hbk, hs, _, _, _, _, _, _, _, _, _, _ => by simp only [BackA] at hbk; exact Backed.none hs hbk.1 hbk.2 ns ob
  | _, x :: xs, y :: ys, [], _, ns, _, ob, ws, im, g, β, hbk, hs, _, _, _, _, _, _, _, _, _, _ => by simp only [BackA] at hbk; exact Backed.none hs hbk.1 hbk.2 ns ob
  | _, x :: xs, y :: ys, o :: os, [], ns, _, ob, ws, im, g, β, hbk, hs, _, hv, _, _, _, _, _, _, _, _ => hv.elim
end
end Go.Proofs.YtaklcemgpinleaaDoor
