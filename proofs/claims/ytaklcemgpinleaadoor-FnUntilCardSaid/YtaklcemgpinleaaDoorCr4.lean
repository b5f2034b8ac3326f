/- What is handed over at a call, and what comes back: lemmas of the layer, on no condition. -/
import Derived.Test.YtaklcemgpinleaaDoorCr3
namespace Go.Proofs.YtaklcemgpinleaaDoor
open Go
set_option linter.unusedSimpArgs false
set_option linter.unusedVariables false
set_option linter.unnecessarySimpa false
set_option linter.unusedSectionVars false

/-! ## What the handing over comes to -/
def ExpC (f : LF) : AV → AV → List Nm → List Nm → Prop
  | .t x, y, ns, zs => y = .t x ∧ ns = [] ∧ zs = []
  | .own n _, y, ns, zs => ∃ fr k rows, f (.live n) = .lrow fr ∧ f (.row n) = .rowc k rows ∧ ((fr = false ∧ y = .vec k rows ∧ ns = [n] ∧ zs = []) ∨ (y = .t (.sl k rows) ∧ ns = [] ∧ zs = [n]))
  | .part n _ i len, y, ns, zs => ∃ fr k rows, f (.live n) = .lrow fr ∧ f (.row n) = .rowc k rows ∧ ((fr = false ∧ y = .vecp k rows i len ∧ ns = [n] ∧ zs = []) ∨ (y = .t (.sl k ((rows.drop i).take len)) ∧ ns = [] ∧ zs = [n]))
  | _, _, _, _ => False
def ExpL (f : LF) : List AV → List AV → List Nm → List Nm → Prop
  | [], ys, ns, zs => ys = [] ∧ ns = [] ∧ zs = []
  | a :: as, ys, ns, zs => ∃ y ys' n1 n2 z1 z2, ExpC f a y n1 z1 ∧ ExpL f as ys' n2 z2 ∧ ys = y :: ys' ∧ ns = n1 ++ n2 ∧ zs = z1 ++ z2
def ExpT (f : LF) (a y : AV) (ns zs : List Nm) : Prop :=
  match a with
  | .agg cs => ∃ ys, ExpL f cs ys ns zs ∧ y = .agg ys
  | .ptr n 0 => ∃ sz ys ns', f (.live n) = .lbox sz ∧ ExpL f ((List.range sz).map fun c => f (.cell n c)) ys ns' zs ∧ y = .box ys ∧ ns = n :: ns'
  | a => ExpC f a y ns zs
def ExpTL (f : LF) : List AV → List AV → List Nm → List Nm → Prop
  | [], ys, ns, zs => ys = [] ∧ ns = [] ∧ zs = []
  | a :: as, ys, ns, zs => ∃ y ys' n1 n2 z1 z2, ExpT f a y n1 z1 ∧ ExpTL f as ys' n2 z2 ∧ ys = y :: ys' ∧ ns = n1 ++ n2 ∧ zs = z1 ++ z2
def ExpR (f : LF) (a y : AV) (ns zs : List Nm) : Prop :=
  match a with
  | .fn g as => ∃ ys, ExpTL f as ys ns zs ∧ y = .fn g ys
  | .tup as => ∃ ys, ExpTL f as ys ns zs ∧ y = .tup ys
  | a => ExpT f a y ns zs
def ExpA (f : LF) : List AV → List AV → List Nm → List Nm → Prop
  | [], ys, ns, zs => ys = [] ∧ ns = [] ∧ zs = []
  | a :: as, ys, ns, zs => ∃ y ys' n1 n2 z1 z2, ExpR f a y n1 z1 ∧ ExpA f as ys' n2 z2 ∧ ys = y :: ys' ∧ ns = n1 ++ n2 ∧ zs = z1 ++ z2

section
variable {f : LF} {ws : Ws}
theorem fail_ev : Rd.fail.ev f ws ↔ False := by simp [Rd.fail, Rd.ev]
theorem bif_ev {b : Bool} {x y : Rd} : (bif b then x else y).ev f ws ↔ (b = true ∧ x.ev f ws) ∨ (b = false ∧ y.ev f ws) := by cases b <;> simp
theorem bif_fail_ev {b : Bool} {x : Rd} (h : (bif b then x else .fail).ev f ws) : b = true ∧ x.ev f ws := by
  cases b
  · exact (fail_ev.1 h).elim
  · exact ⟨rfl, h⟩
theorem expC_ev {ex : Bool} {a : AV} {k : AV → List Nm → List Nm → Rd} (h : (expC ex a k).ev f ws) : ∃ y ns zs, (k y ns zs).ev f ws ∧ ExpC f a y ns zs := by
  cases a with
  | t x => exact ⟨_, _, _, h, rfl, rfl, rfl⟩
  | own n e =>
    simp only [expC, Rd.ev] at h
    split at h <;> try exact (fail_ev.1 h).elim
    rename_i fr hl
    simp only [Rd.ev] at h
    split at h <;> try exact (fail_ev.1 h).elim
    rename_i k' rows hr
    rcases bif_ev.1 h with ⟨hb, h⟩ | ⟨_, h⟩
    · refine ⟨_, _, _, h, fr, k', rows, hl, hr, .inl ⟨?_, rfl, rfl, rfl⟩⟩
      cases fr <;> simp_all
    · exact ⟨_, _, _, h, fr, k', rows, hl, hr, .inr ⟨rfl, rfl, rfl⟩⟩
  | part n e i len =>
    simp only [expC, Rd.ev] at h
    split at h <;> try exact (fail_ev.1 h).elim
    rename_i fr hl
    simp only [Rd.ev] at h
    split at h <;> try exact (fail_ev.1 h).elim
    rename_i k' rows hr
    rcases bif_ev.1 h with ⟨hb, h⟩ | ⟨_, h⟩
    · refine ⟨_, _, _, h, fr, k', rows, hl, hr, .inl ⟨?_, rfl, rfl, rfl⟩⟩
      cases fr <;> simp_all
    · exact ⟨_, _, _, h, fr, k', rows, hl, hr, .inr ⟨rfl, rfl, rfl⟩⟩
  | _ => exact (fail_ev.1 h).elim
theorem expCs_ev {ex : Bool} : ∀ {as : List AV} {k : List AV → List Nm → List Nm → Rd}, (expCs ex as k).ev f ws → ∃ ys ns zs, (k ys ns zs).ev f ws ∧ ExpL f as ys ns zs
  | [], k, h => ⟨_, _, _, h, rfl, rfl, rfl⟩
  | a :: as, k, h => by
    obtain ⟨y, n1, z1, h, e1⟩ := expC_ev h
    obtain ⟨ys, n2, z2, h, e2⟩ := expCs_ev h
    exact ⟨_, _, _, h, _, _, _, _, _, _, e1, e2, rfl, rfl, rfl⟩
theorem getCells_ev {n : Nm} : ∀ {m c : Nat} {k : List AV → Rd}, (getCells n c m k).ev f ws → (k ((List.range m).map fun j => f (.cell n (c + j)))).ev f ws
  | 0, _, _, h => h
  | m + 1, c, k, h => by
    simp only [getCells, Rd.ev] at h
    have := getCells_ev h
    rw [List.range_succ_eq_map, List.map_cons, List.map_map]
    refine (congrArg (fun l => (k (f (.cell n (c + 0)) :: l)).ev f ws) ?_).mp this
    apply List.map_congr_left
    intro j _
    simp [Nat.add_assoc, Nat.add_comm 1 j]
theorem expT_ev {ex : Bool} {a : AV} {k : AV → List Nm → List Nm → Rd} (h : (expT ex a k).ev f ws) : ∃ y ns zs, (k y ns zs).ev f ws ∧ ExpT f a y ns zs := by
  cases a with
  | agg cs => obtain ⟨ys, ns, zs, h, e⟩ := expCs_ev h; exact ⟨_, _, _, h, ys, e, rfl⟩
  | ptr n c =>
    cases c with
    | zero =>
      simp only [expT, Rd.ev] at h
      split at h <;> try exact (fail_ev.1 h).elim
      rename_i sz hl
      have h := getCells_ev h
      obtain ⟨ys, ns, zs, h, e⟩ := expCs_ev h
      exact ⟨_, _, _, h, sz, ys, ns, hl, by simpa using e, rfl, rfl⟩
    | succ c => simp only [expT] at h; obtain ⟨y, ns, zs, h, e⟩ := expC_ev h; exact ⟨y, ns, zs, h, by simpa only [ExpT] using e⟩
  | _ => simp only [expT] at h; obtain ⟨y, ns, zs, h, e⟩ := expC_ev h; exact ⟨y, ns, zs, h, by simpa only [ExpT] using e⟩
theorem expTs_ev {ex : Bool} : ∀ {as : List AV} {k : List AV → List Nm → List Nm → Rd}, (expTs ex as k).ev f ws → ∃ ys ns zs, (k ys ns zs).ev f ws ∧ ExpTL f as ys ns zs
  | [], k, h => ⟨_, _, _, h, rfl, rfl, rfl⟩
  | a :: as, k, h => by
    obtain ⟨y, n1, z1, h, e1⟩ := expT_ev h
    obtain ⟨ys, n2, z2, h, e2⟩ := expTs_ev h
    exact ⟨_, _, _, h, _, _, _, _, _, _, e1, e2, rfl, rfl, rfl⟩
theorem expR_ev {ex : Bool} {a : AV} {k : AV → List Nm → List Nm → Rd} (h : (expR ex a k).ev f ws) : ∃ y ns zs, (k y ns zs).ev f ws ∧ ExpR f a y ns zs := by
  cases a with
  | fn g cs => obtain ⟨ys, ns, zs, h, e⟩ := expTs_ev h; exact ⟨_, _, _, h, ys, e, rfl⟩
  | tup cs => obtain ⟨ys, ns, zs, h, e⟩ := expTs_ev h; exact ⟨_, _, _, h, ys, e, rfl⟩
  | _ => simp only [expR] at h; obtain ⟨y, ns, zs, h, e⟩ := expT_ev h; exact ⟨y, ns, zs, h, by simpa only [ExpR] using e⟩
theorem expArgs_ev {ex : Nat → Bool} : ∀ {as : List AV} {j : Nat} {k : List AV → List Nm → List Nm → Rd}, (expArgs ex j as k).ev f ws → ∃ ys ns zs, (k ys ns zs).ev f ws ∧ ExpA f as ys ns zs
  | [], _, k, h => ⟨_, _, _, h, rfl, rfl, rfl⟩
  | a :: as, j, k, h => by
    obtain ⟨y, n1, z1, h, e1⟩ := expR_ev h
    obtain ⟨ys, n2, z2, h, e2⟩ := expArgs_ev h
    exact ⟨_, _, _, h, _, _, _, _, _, _, e1, e2, rfl, rfl, rfl⟩
end

def SimA (h : IH) (β : BM) : List AV → List Value → Prop
  | [], [] => True
  | a :: as, v :: vs => SimR h β a v ∧ SimA h β as vs
  | _, _ => False
/-! ## Rows are frozen -/
section
variable {G : Nat → Option Rows} {E : Env} {f : LF} {h : IH} {β : BM} {a : Act} {w : World}
theorem frW_other {p : Pl} : ∀ {zs : List Nm} {f : LF}, (∀ z ∈ zs, p ≠ .live z) → updL f (frW zs) p = f p
  | [], _, _ => rfl
  | z :: zs, f, hz => by
    simp only [frW, updL]
    rw [frW_other (fun y hy => hz y (List.mem_cons_of_mem _ hy)), upd_other _ _ (hz z List.mem_cons_self)]
theorem frW_mem : ∀ {zs : List Nm} {f : LF} {z : Nm}, z ∈ zs → updL f (frW zs) (.live z) = .lrow true
  | y :: zs, f, z, hz => by
    simp only [frW, updL]
    by_cases hm : z ∈ zs
    · exact frW_mem hm
    · rw [frW_other (fun x hx e => hm (by simp at e; rw [e]; exact hx))]
      rcases List.mem_cons.1 hz with e | e
      · subst e; exact upd_same _ _ _
      · exact absurd e hm
theorem Sim.freezes : ∀ {zs : List Nm} {f : LF} {h : IH}, Sim G E f h β a w → (∀ z ∈ zs, ∃ fr, f (.live z) = .lrow fr) → ∃ h', h.le h' ∧ Sim G E (updL f (frW zs)) h' β a w
  | [], f, h, hs, _ => ⟨h, IH.le_refl h, hs⟩
  | z :: zs, f, h, hs, hz => by
    obtain ⟨fr, hf⟩ := hz z List.mem_cons_self
    obtain ⟨h1, l1, s1⟩ := hs.freeze (f' := upd f (.live z) (.lrow true)) hf (upd_same _ _ _) (fun p hp => upd_other _ _ hp)
    obtain ⟨h2, l2, s2⟩ := Sim.freezes (zs := zs) s1 (fun y hy => by
      by_cases e : y = z
      · subst e; exact ⟨true, upd_same _ _ _⟩
      · obtain ⟨fr', hf'⟩ := hz y (List.mem_cons_of_mem _ hy)
        exact ⟨fr', by rw [upd_other _ _ (by simp [e])]; exact hf'⟩)
    exact ⟨h2, IH.le_trans l1 l2, s2⟩
/-- the blocks that names stand for -/
def blkOf (β : BM) (n : Nm) : List Nat := match β n with | .row (some b) _ _ _ => [b] | .box b _ => [b] | _ => []
theorem deadW_other {p : Pl} : ∀ {zs : List Nm} {f : LF}, (∀ z ∈ zs, p ≠ .live z ∧ p ≠ .row z) → updL f (deadW zs) p = f p
  | [], _, _ => rfl
  | z :: zs, f, hz => by
    simp only [deadW, updL]
    rw [deadW_other (fun y hy => hz y (List.mem_cons_of_mem _ hy)), upd_other _ _ (hz z List.mem_cons_self).2, upd_other _ _ (hz z List.mem_cons_self).1]
theorem deadW_mem : ∀ {zs : List Nm} {f : LF} {z : Nm}, z ∈ zs → updL f (deadW zs) (.live z) = .skip
  | y :: zs, f, z, hz => by
    simp only [deadW, updL]
    by_cases hm : z ∈ zs
    · exact deadW_mem hm
    · rw [deadW_other (fun x hx => ⟨fun e => hm (by simp at e; rw [e]; exact hx), by simp⟩), upd_other _ _ (by simp)]
      rcases List.mem_cons.1 hz with e | e
      · subst e; exact upd_same _ _ _
      · exact absurd e hm
theorem Sim.kills : ∀ {ns : List Nm} {f : LF}, Sim G E f h β a w → Sim G E (updL f (deadW ns)) h β a w
  | [], _, hs => hs
  | n :: ns, f, hs => by
    simp only [deadW, updL]
    refine Sim.kills (ns := ns) (hs.kill (n := n) ?_ ?_)
    · rw [upd_other _ _ (by simp), upd_same]
    · intro p h1 h2; rw [upd_other _ _ h2, upd_other _ _ h1]
/-- names that stand for something that the call holds alone -/
def Alone (f : LF) (n : Nm) : Prop := f (.live n) = .lrow false ∨ ∃ s, f (.live n) = .lbox s
theorem own_of_blk (hs : Sim G E f h β a w) {n : Nm} (hn : Alone f n) {b : Nat} (hb : b ∈ blkOf β n) : OwnB f β n b := by
  rcases hn with hn | ⟨s, hn⟩
  · obtain ⟨b', sz, k, rows, e, _⟩ := hs.rows n false hn
    simp only [blkOf, e] at hb
    cases b' with
    | none => simp at hb
    | some b' => simp at hb; subst hb; exact .inl ⟨hn, _, _, _, e⟩
  · obtain ⟨b', e, _⟩ := hs.boxes n s hn
    simp only [blkOf, e, List.mem_singleton] at hb
    subst hb; exact .inr ⟨s, hn, _, e⟩
theorem blk_of_own {n : Nm} {b : Nat} (ho : OwnB f β n b) : b ∈ blkOf β n := by
  rcases ho with ⟨_, _, _, _, e⟩ | ⟨_, _, _, e⟩ <;> simp [blkOf, e]
theorem blkOf_nodup (β : BM) (n : Nm) : (blkOf β n).Nodup := by unfold blkOf; split <;> simp
theorem blks_nodup (hs : Sim G E f h β a w) : ∀ {ns : List Nm}, ns.Nodup → (∀ n ∈ ns, Alone f n) → (ns.flatMap (blkOf β)).Nodup
  | [], _, _ => by simp
  | n :: ns, hn, ha => by
    obtain ⟨h1, h2⟩ := List.nodup_cons.1 hn
    simp only [List.flatMap_cons]
    refine List.nodup_append.2 ⟨blkOf_nodup β n, blks_nodup hs h2 (fun m hm => ha m (List.mem_cons_of_mem _ hm)), fun b hb c hc e => ?_⟩
    subst e
    obtain ⟨m, hm, hbm⟩ := List.mem_flatMap.1 hc
    exact h1 (hs.inj n m b (own_of_blk hs (ha n List.mem_cons_self) hb) (own_of_blk hs (ha m (List.mem_cons_of_mem _ hm)) hbm) ▸ hm)
theorem alone_none (hs : Sim G E f h β a w) {n : Nm} (hn : Alone f n) {b : Nat} (hb : b ∈ blkOf β n) : h b = none := by
  rcases hn with hn | ⟨s, hn⟩
  · obtain ⟨b', sz, k, rows, e, _, r⟩ := hs.rows n false hn
    simp only [blkOf, e] at hb
    cases b' with
    | none => simp at hb
    | some b' => simp at hb; subst hb; obtain ⟨_, _, _, _, q, _⟩ := r; exact q
  · obtain ⟨b', e, _, _, _, _, q, _⟩ := hs.boxes n s hn
    simp only [blkOf, e, List.mem_singleton] at hb
    subst hb; exact q
/-- behind the handing over the blocks are nobody's -/
theorem kills_loose (hs : Sim G E f h β a w) {ns : List Nm} (ha : ∀ n ∈ ns, Alone f n) {b : Nat} (hb : b ∈ ns.flatMap (blkOf β)) : Loose E (updL f (deadW ns)) β h b := by
  obtain ⟨n, hn, hb⟩ := List.mem_flatMap.1 hb
  have ho := own_of_blk hs (ha n hn) hb
  refine ⟨alone_none hs (ha n hn) hb, fun m hm => ?_, hs.own n b ho⟩
  by_cases hmn : m ∈ ns
  · rcases hm with ⟨q, _⟩ | ⟨_, q, _⟩ <;> rw [deadW_mem hmn] at q <;> cases q
  · have hl : updL f (deadW ns) (.live m) = f (.live m) := deadW_other (fun z hz => ⟨fun e => hmn (by simp at e; rw [e]; exact hz), by simp⟩)
    have : OwnB f β m b := by unfold OwnB at *; rwa [hl] at hm
    exact hmn (hs.inj m n b this ho ▸ hn)
theorem RowsAt.sub {h : IH} {cs : Array Value} {k : Nat} {rows : Rows} (hr : RowsAt h cs 0 k rows) (i m : Nat) : RowsAt h cs (i * k) k ((rows.drop i).take m) := by
  refine RowsAt.of_cells (fun r hm => hr.1 r ?_) (fun j r hj => ?_)
  · exact List.mem_of_mem_drop (List.mem_of_mem_take hm)
  · have hj' : rows[i + j]? = some r := by
      have := hj
      rw [List.getElem?_take] at this
      split at this
      · rwa [List.getElem?_drop] at this
      · cases this
    have := hr.cells hj'
    rwa [Nat.zero_add, Nat.add_mul] at this
theorem RowsAt.nil {h : IH} {cs : Array Value} {off k : Nat} : RowsAt h cs off k [] := ⟨by simp, fun _ _ => undef, by simp, by simp⟩
theorem relC_of {f1 : LF} (hs : Sim G E f1 h β a w) (hrow : ∀ n, f1 (.row n) = f (.row n)) {x y : AV} {ns zs : List Nm} (hz : ∀ z ∈ zs, f1 (.live z) = .lrow true) (hn : ∀ n ∈ ns, f1 (.live n) = f (.live n))
    (he : ExpC f x y ns zs) {v : Value} (hv : SimC h β x v) : RelC h w y v (ns.flatMap (blkOf β)) ∧ ∀ n ∈ ns, Alone f1 n := by
  cases x with
  | t x => obtain ⟨rfl, rfl, rfl⟩ := he; exact ⟨⟨hv, rfl⟩, by simp⟩
  | own n e =>
    obtain ⟨fr, k, rows, e1, e2, e3⟩ := he
    obtain ⟨b, sz, len, cap, q1, rfl, q3, q4, q5⟩ := hv
    rcases e3 with ⟨rfl, rfl, rfl, rfl⟩ | ⟨rfl, rfl, rfl⟩
    · have hl := (hn n (by simp)).trans e1
      obtain ⟨b', sz', k', rows', r1, r2, r3⟩ := hs.rows n false hl
      rw [hrow, e2] at r2; simp only [AV.rowc.injEq] at r2; obtain ⟨rfl, rfl⟩ := r2
      rw [q1] at r1; simp only [BI.row.injEq] at r1; obtain ⟨rfl, rfl, rfl, rfl⟩ := r1
      refine ⟨?_, fun m hm => by simp at hm; subst hm; exact .inl hl⟩
      cases b with
      | none =>
        obtain ⟨rfl, _⟩ := r3
        have := q5 rfl; subst this
        exact .inl ⟨rfl, rfl, by simp [blkOf, q1]⟩
      | some b =>
        obtain ⟨cs, T, s1, s2, _, s4⟩ := r3
        exact .inr ⟨b, cap, cs, T, rfl, by simp [blkOf, q1], s1, q3, by rw [s2]; exact q4, s4⟩
    · have hl := hz n (by simp)
      obtain ⟨b', sz', k', rows', r1, r2, r3⟩ := hs.rows n true hl
      rw [hrow, e2] at r2; simp only [AV.rowc.injEq] at r2; obtain ⟨rfl, rfl⟩ := r2
      rw [q1] at r1; simp only [BI.row.injEq] at r1; obtain ⟨rfl, rfl, rfl, rfl⟩ := r1
      refine ⟨⟨?_, by simp⟩, by simp⟩
      cases b with
      | none =>
        obtain ⟨rfl, _⟩ := r3
        have := q5 rfl; subst this
        exact .nil
      | some b =>
        obtain ⟨cs, T, z, s1, s2⟩ := r3
        exact Rep.sl_mk s1 q3 s2 rfl
  | part n e i m =>
    obtain ⟨fr, k, rows, e1, e2, e3⟩ := he
    obtain ⟨b, sz, len, cap, off, q1, rfl, q3, q4, q5, q6, q7, q8⟩ := hv
    rcases e3 with ⟨rfl, rfl, rfl, rfl⟩ | ⟨rfl, rfl, rfl⟩
    · have hl := (hn n (by simp)).trans e1
      obtain ⟨b', sz', k', rows', r1, r2, r3⟩ := hs.rows n false hl
      rw [hrow, e2] at r2; simp only [AV.rowc.injEq] at r2; obtain ⟨rfl, rfl⟩ := r2
      rw [q1] at r1; simp only [BI.row.injEq] at r1; obtain ⟨rfl, rfl, rfl, rfl⟩ := r1
      refine ⟨?_, fun m hm => by simp at hm; subst hm; exact .inl hl⟩
      cases b with
      | none =>
        obtain ⟨rfl, _⟩ := r3
        obtain ⟨rfl, rfl⟩ := q8 rfl
        simp only [List.length_nil, Nat.le_zero, Nat.add_eq_zero_iff] at q3
        obtain ⟨rfl, rfl⟩ := q3
        exact .inl ⟨rfl, rfl, rfl, rfl, by simp [blkOf, q1]⟩
      | some b =>
        obtain ⟨cs, T, s1, s2, _, s4⟩ := r3
        exact .inr ⟨b, off, cap, cs, T, rfl, by simp [blkOf, q1], s1, q3, q4, q5, q6, by rw [s2]; exact q7, s4⟩
    · have hl := hz n (by simp)
      obtain ⟨b', sz', k', rows', r1, r2, r3⟩ := hs.rows n true hl
      rw [hrow, e2] at r2; simp only [AV.rowc.injEq] at r2; obtain ⟨rfl, rfl⟩ := r2
      rw [q1] at r1; simp only [BI.row.injEq] at r1; obtain ⟨rfl, rfl, rfl, rfl⟩ := r1
      have hlen : ((rows.drop i).take m).length = m := by simp; omega
      refine ⟨⟨?_, by simp⟩, by simp⟩
      cases b with
      | none =>
        obtain ⟨rfl, _⟩ := r3
        obtain ⟨rfl, rfl⟩ := q8 rfl
        simp only [List.length_nil, Nat.le_zero, Nat.add_eq_zero_iff] at q3
        obtain ⟨rfl, rfl⟩ := q3
        exact .nil
      | some b =>
        obtain ⟨cs, T, z, s1, s2⟩ := r3
        refine Rep.sl_mk s1 (by omega) ?_ hlen.symm
        rcases q5 with rfl | rfl
        · simpa using RowsAt.nil
        · exact s2.sub i m
  | _ => exact he.elim
theorem relL_of {f1 : LF} (hs : Sim G E f1 h β a w) (hrow : ∀ n, f1 (.row n) = f (.row n)) : ∀ {xs ys : List AV} {ns zs : List Nm}, (∀ z ∈ zs, f1 (.live z) = .lrow true) → (∀ n ∈ ns, f1 (.live n) = f (.live n)) →
    ExpL f xs ys ns zs → ∀ {vs : List Value}, SimL h β xs vs → RelL h w ys vs (ns.flatMap (blkOf β)) ∧ ∀ n ∈ ns, Alone f1 n
  | [], ys, ns, zs, _, _, he, vs, hv => by
    obtain ⟨rfl, rfl, rfl⟩ := he
    cases vs with
    | nil => exact ⟨rfl, by simp⟩
    | cons _ _ => exact hv.elim
  | x :: xs, ys, ns, zs, hz, hn, he, vs, hv => by
    obtain ⟨y, ys', n1, n2, z1, z2, e1, e2, rfl, rfl, rfl⟩ := he
    cases vs with
    | nil => exact hv.elim
    | cons v vs =>
      obtain ⟨r1, a1⟩ := relC_of hs hrow (fun z hm => hz z (by simp [hm])) (fun n hm => hn n (by simp [hm])) e1 hv.1
      obtain ⟨r2, a2⟩ := relL_of hs hrow (fun z hm => hz z (by simp [hm])) (fun n hm => hn n (by simp [hm])) e2 hv.2
      exact ⟨⟨_, _, r1, r2, by simp⟩, fun n hm => by rcases List.mem_append.1 hm with q | q; exact a1 n q; exact a2 n q⟩
theorem simL_of_cells {n : Nm} {cs : Array Value} {sz : Nat} (hsz : cs.size = sz) {f1 : LF} (hc : ∀ c, c < sz → isDef (f1 (.cell n c)) = true → ∃ v, cs[c]? = some v ∧ SimC h β (f1 (.cell n c)) v) :
    ∀ {m c : Nat}, c + m = sz → (∀ j, j < m → isDef (f1 (.cell n (c + j))) = true) → SimL h β ((List.range m).map fun j => f1 (.cell n (c + j))) (cs.toList.drop c)
  | 0, c, hm, _ => by
    rw [List.drop_eq_nil_of_le (by simp; omega)]; trivial
  | m + 1, c, hm, hd => by
    obtain ⟨v, h1, h2⟩ := hc c (by omega) (by simpa using hd 0 (by omega))
    have hlt : c < cs.toList.length := by simp; omega
    rw [List.range_succ_eq_map, List.map_cons, List.map_map, List.drop_eq_getElem_cons hlt]
    refine ⟨?_, ?_⟩
    · simp only [Nat.add_zero]
      have : cs.toList[c] = v := by
        have := h1; rw [Array.getElem?_eq_getElem (by simpa using hlt)] at this; simpa using this
      rw [this]; exact h2
    · have := simL_of_cells hsz hc (m := m) (c := c + 1) (by omega) (fun j hj => by simpa [Nat.add_assoc, Nat.add_comm 1 j] using hd (j + 1) (by omega))
      simpa [Function.comp_def, Nat.add_assoc, Nat.add_comm 1] using this
theorem expL_def : ∀ {xs ys : List AV} {ns zs : List Nm}, ExpL f xs ys ns zs → ∀ x ∈ xs, isDef x = true
  | x :: xs, _, _, _, he, z, hz => by
    obtain ⟨y, ys', n1, n2, z1, z2, e1, e2, _⟩ := he
    rcases List.mem_cons.1 hz with q | q
    · subst q; cases z <;> first | rfl | exact e1.elim
    · exact expL_def e2 z q
theorem relT_of {f1 : LF} (hs : Sim G E f1 h β a w) (hrow : ∀ n, f1 (.row n) = f (.row n)) (hcell : ∀ n c, f1 (.cell n c) = f (.cell n c)) {x y : AV} {ns zs : List Nm} (hz : ∀ z ∈ zs, f1 (.live z) = .lrow true) (hn : ∀ n ∈ ns, f1 (.live n) = f (.live n))
    (he : ExpT f x y ns zs) {v : Value} (hv : SimT h β x v) : RelT h w y v (ns.flatMap (blkOf β)) ∧ ∀ n ∈ ns, Alone f1 n := by
  have hC : ∀ {x y : AV}, ExpC f x y ns zs → SimC h β x v → RelT h w y v (ns.flatMap (blkOf β)) ∧ ∀ n ∈ ns, Alone f1 n := by
    intro x y he hv
    obtain ⟨r1, r2⟩ := relC_of hs hrow hz hn he hv
    refine ⟨?_, r2⟩
    cases x <;> simp only [ExpC] at he
    · obtain ⟨rfl, _⟩ := he; exact r1
    · obtain ⟨_, _, _, _, _, q⟩ := he; rcases q with ⟨_, rfl, _⟩ | ⟨rfl, _⟩ <;> exact r1
    · obtain ⟨_, _, _, _, _, q⟩ := he; rcases q with ⟨_, rfl, _⟩ | ⟨rfl, _⟩ <;> exact r1
  cases x with
  | agg cs =>
    obtain ⟨ys, he, rfl⟩ := he
    obtain ⟨vs, rfl, hv⟩ := hv
    obtain ⟨r1, r2⟩ := relL_of hs hrow hz hn he hv
    exact ⟨⟨vs, rfl, r1⟩, r2⟩
  | ptr n c =>
    cases c with
    | succ c => simp only [ExpT, SimT] at he hv; exact hC he hv
    | zero =>
      obtain ⟨sz, ys, ns', hl, he, rfl, rfl⟩ := he
      obtain ⟨b, sz', q1, rfl⟩ := hv
      have hl1 := (hn n (by simp)).trans hl
      obtain ⟨b', r1, cs, T, s1, s2, s3, s4⟩ := hs.boxes n sz hl1
      rw [q1] at r1; simp only [BI.box.injEq] at r1; obtain ⟨rfl, rfl⟩ := r1
      have hd : ∀ j, j < sz' → isDef (f1 (.cell n (0 + j))) = true := fun j hj => by
        rw [hcell, Nat.zero_add]; exact expL_def he _ (List.mem_map.2 ⟨j, List.mem_range.2 hj, rfl⟩)
      have hv' := simL_of_cells s2 s4 (m := sz') (c := 0) (by omega) hd
      simp only [Nat.zero_add, List.drop_zero, hcell] at hv'
      obtain ⟨t1, t2⟩ := relL_of hs hrow hz (fun m hm => hn m (by simp [hm])) he hv'
      exact ⟨⟨b, cs, T, _, rfl, s1, t1, by simp [blkOf, q1]⟩, fun m hm => by rcases List.mem_cons.1 hm with e | e; subst e; exact .inr ⟨_, hl1⟩; exact t2 m e⟩
  | _ => simp only [ExpT, SimT] at he hv; exact hC he hv
theorem relTL_of {f1 : LF} (hs : Sim G E f1 h β a w) (hrow : ∀ n, f1 (.row n) = f (.row n)) (hcell : ∀ n c, f1 (.cell n c) = f (.cell n c)) : ∀ {xs ys : List AV} {ns zs : List Nm}, (∀ z ∈ zs, f1 (.live z) = .lrow true) → (∀ n ∈ ns, f1 (.live n) = f (.live n)) →
    ExpTL f xs ys ns zs → ∀ {vs : List Value}, SimTL h β xs vs → RelTL h w ys vs (ns.flatMap (blkOf β)) ∧ ∀ n ∈ ns, Alone f1 n
  | [], ys, ns, zs, _, _, he, vs, hv => by
    obtain ⟨rfl, rfl, rfl⟩ := he
    cases vs with
    | nil => exact ⟨rfl, by simp⟩
    | cons _ _ => exact hv.elim
  | x :: xs, ys, ns, zs, hz, hn, he, vs, hv => by
    obtain ⟨y, ys', n1, n2, z1, z2, e1, e2, rfl, rfl, rfl⟩ := he
    cases vs with
    | nil => exact hv.elim
    | cons v vs =>
      obtain ⟨r1, a1⟩ := relT_of hs hrow hcell (fun z hm => hz z (by simp [hm])) (fun n hm => hn n (by simp [hm])) e1 hv.1
      obtain ⟨r2, a2⟩ := relTL_of hs hrow hcell (fun z hm => hz z (by simp [hm])) (fun n hm => hn n (by simp [hm])) e2 hv.2
      exact ⟨⟨_, _, r1, r2, by simp⟩, fun n hm => by rcases List.mem_append.1 hm with q | q; exact a1 n q; exact a2 n q⟩
theorem relR_of {f1 : LF} (hs : Sim G E f1 h β a w) (hrow : ∀ n, f1 (.row n) = f (.row n)) (hcell : ∀ n c, f1 (.cell n c) = f (.cell n c)) {x y : AV} {ns zs : List Nm} (hz : ∀ z ∈ zs, f1 (.live z) = .lrow true) (hn : ∀ n ∈ ns, f1 (.live n) = f (.live n))
    (he : ExpR f x y ns zs) {v : Value} (hv : SimR h β x v) : RelR h w y v (ns.flatMap (blkOf β)) ∧ ∀ n ∈ ns, Alone f1 n := by
  have hT : ∀ {x y : AV}, ExpT f x y ns zs → SimT h β x v → RelR h w y v (ns.flatMap (blkOf β)) ∧ ∀ n ∈ ns, Alone f1 n := by
    intro x y he hv
    obtain ⟨r1, r2⟩ := relT_of hs hrow hcell hz hn he hv
    refine ⟨?_, r2⟩
    cases y <;> first | exact r1 | exact r1.elim
  cases x with
  | fn g cs =>
    obtain ⟨ys, he, rfl⟩ := he
    obtain ⟨vs, rfl, hv⟩ := hv
    obtain ⟨r1, r2⟩ := relTL_of hs hrow hcell hz hn he hv
    exact ⟨⟨vs, rfl, r1⟩, r2⟩
  | tup cs =>
    obtain ⟨ys, he, rfl⟩ := he
    obtain ⟨vs, rfl, hv⟩ := hv
    obtain ⟨r1, r2⟩ := relTL_of hs hrow hcell hz hn he hv
    exact ⟨⟨vs, rfl, r1⟩, r2⟩
  | _ => simp only [ExpR, SimR] at he hv; exact hT he hv
theorem relA_of {f1 : LF} (hs : Sim G E f1 h β a w) (hrow : ∀ n, f1 (.row n) = f (.row n)) (hcell : ∀ n c, f1 (.cell n c) = f (.cell n c)) : ∀ {xs ys : List AV} {ns zs : List Nm}, (∀ z ∈ zs, f1 (.live z) = .lrow true) → (∀ n ∈ ns, f1 (.live n) = f (.live n)) →
    ExpA f xs ys ns zs → ∀ {vs : List Value}, SimA h β xs vs → RelA h w ys vs (ns.flatMap (blkOf β)) ∧ ∀ n ∈ ns, Alone f1 n
  | [], ys, ns, zs, _, _, he, vs, hv => by
    obtain ⟨rfl, rfl, rfl⟩ := he
    cases vs with
    | nil => exact ⟨rfl, by simp⟩
    | cons _ _ => exact hv.elim
  | x :: xs, ys, ns, zs, hz, hn, he, vs, hv => by
    obtain ⟨y, ys', n1, n2, z1, z2, e1, e2, rfl, rfl, rfl⟩ := he
    cases vs with
    | nil => exact hv.elim
    | cons v vs =>
      obtain ⟨r1, a1⟩ := relR_of hs hrow hcell (fun z hm => hz z (by simp [hm])) (fun n hm => hn n (by simp [hm])) e1 hv.1
      obtain ⟨r2, a2⟩ := relA_of hs hrow hcell (fun z hm => hz z (by simp [hm])) (fun n hm => hn n (by simp [hm])) e2 hv.2
      exact ⟨⟨_, _, r1, r2, by simp⟩, fun n hm => by rcases List.mem_append.1 hm with q | q; exact a1 n q; exact a2 n q⟩
end
end Go.Proofs.YtaklcemgpinleaaDoor
