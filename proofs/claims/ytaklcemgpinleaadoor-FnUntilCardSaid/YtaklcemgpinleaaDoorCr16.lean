/- A region does to a fitting state what the layer says, in whatever order it runs: lemmas of the layer. -/
import Derived.Test.YtaklcemgpinleaaDoorCr15
import Derived.Orders
namespace Go.Proofs.YtaklcemgpinleaaDoor
open Go
set_option linter.unusedSimpArgs false
set_option linter.unusedVariables false
set_option linter.unnecessarySimpa false
set_option linter.unusedSectionVars false

section
variable {C : Cx} {P : Program} {E : Env} {h : IH} {β : BM} {a : Act} {w : World} {Q : Exit → Act → World → Prop}
/-! ## One operation under its guard -/
theorem getD_bool {tmps : Array Value} {t : Nat} {b : Bool} (h : tmps.getD t undef = .bool b) : tmps[t]? = some (.bool b) := by
  rw [Array.getD_eq_getD_getElem?] at h
  cases hq : tmps[t]? with
  | none => rw [hq] at h; cases h
  | some v => rw [hq] at h; exact congrArg some h
theorem getD_undef {tmps : Array Value} {t : Nat} (h : tmps.getD t undef = undef) (b : Bool) : tmps[t]? ≠ some (.bool b) := by
  intro hq
  rw [Array.getD_eq_getD_getElem?, hq] at h
  cases h
theorem step_ok (hT : TyOK P C.Γ) (hA : ∀ g ys r outs, C.ac g ys r outs → AC P C.G g ys r outs) {ops : Array Oper} {o : Oper} {f : LF} {ws : Ws} (hev : (stepRd C E.N ops.toList o).ev f ws) (hs : Sim C.G E f h β a w) {K : Act → World → Prop} (hK : ∀ h' β' a' w', Sim C.G E (updL f ws) h' β' a' w' → K a' w') :
    if Region.wanted o (yielded ops a.tmps) then o.wp P a w K Q else K (a.put o.dst undef) w := by
  have yes : Region.wanted o (yielded ops a.tmps) = true → (opRd C E.N o).ev f ws → if Region.wanted o (yielded ops a.tmps) then o.wp P a w K Q else K (a.put o.dst undef) w := by
    intro hw hev
    rw [if_pos hw]
    exact opRd_ok hT hA hev hs K Q hK
  have no : Region.wanted o (yielded ops a.tmps) = false → (fin E.N o .skip []).ev f ws → if Region.wanted o (yielded ops a.tmps) then o.wp P a w K Q else K (a.put o.dst undef) w := by
    intro hw hev
    rw [if_neg (by rw [hw]; simp)]
    exact hK h β _ w (fin_ok (x := .skip) hev hs rfl)
  unfold stepRd guardRd at hev
  split at hev
  · rename_i hg
    exact yes (by simp [Region.wanted, hg]) hev
  · rename_i j want hg
    split at hev <;> try exact (fail_ev.1 hev).elim
    rename_i d hd
    replace hev := get_ev hev
    have hd' : (ops[j]?).bind (·.dst) = some d := by simpa using hd
    split at hev <;> try exact (fail_ev.1 hev).elim
    · rename_i b hb
      have hv := hs.tmps d
      rw [hb] at hv
      have hv := getD_bool (simV hv).1
      have hy : yielded ops a.tmps j = some b := by simp [yielded, hd', hv]
      have hwt : Region.wanted o (yielded ops a.tmps) = (b == want) := by simp [Region.wanted, hg, hy]
      rcases hev with ⟨hb, hev⟩ | ⟨hb, hev⟩
      · subst hb
        cases want
        · exact no (by rw [hwt]; rfl) hev
        · exact yes (by rw [hwt]; rfl) hev
      · subst hb
        cases want
        · exact yes (by rw [hwt]; rfl) hev
        · exact no (by rw [hwt]; rfl) hev
    · rename_i hb
      have hv := hs.tmps d
      rw [hb] at hv
      have hv : a.tmps.getD d undef = undef := hv
      have hy : yielded ops a.tmps j = none := by
        unfold yielded
        rw [hd', Option.bind_some]
        split
        · rename_i b hq; exact absurd hq (getD_undef hv b)
        · rfl
      exact no (by simp [Region.wanted, hg, hy]) hev

/-! ## A list of operations -/
def Chain (C : Cx) (N : Nat) (ops : List Oper) : List Oper → LF → List Log → LF → Prop
  | [], f, logs, f' => logs = [] ∧ f' = f
  | o :: rest, f, logs, f' => ∃ R W logs', logs = ⟨R, W⟩ :: logs' ∧ (∀ g : LF, (∀ p ∈ R, g p = f p) → (stepRd C N ops o).ev g W) ∧ Chain C N ops rest (updL f W) logs' f'
theorem upd_id {f : LF} {p : Pl} {x : AV} (hx : f p = x) : upd f p x = f := by
  funext q; simp only [upd]; split
  · rename_i e; rw [e, hx]
  · rfl
theorem guardCase_elim {ops : List Oper} {o : Oper} {s : St} {k : St → Prop} (hg : guardCase ops o s k) : ∃ s', k s' ∧ s'.look = s.look := by
  unfold guardCase at hg
  split at hg
  · exact ⟨s, hg, rfl⟩
  · split at hg
    · rename_i d _
      split at hg
      · rename_i b hb
        rcases Br_elim hg with ⟨e, hg⟩ | ⟨e, hg⟩
        · rw [St.setK_eq] at hg
          exact ⟨_, hg, by rw [look_set]; exact upd_id (by rw [hb, e])⟩
        · rw [St.setK_eq] at hg
          exact ⟨_, hg, by rw [look_set]; exact upd_id (by rw [hb, e])⟩
      · exact ⟨s, hg, rfl⟩
    · exact ⟨s, hg, rfl⟩
theorem vops_chain {N : Nat} {ops : List Oper} {K : St → List Log → Prop} : ∀ {l : List Oper} {s : St} {lg : List Log}, vops C N ops l s lg K → ∃ logs s', K s' (logs.reverse ++ lg) ∧ Chain C N ops l s.look logs s'.look
  | [], s, lg, hv => ⟨[], s, hv, rfl, rfl⟩
  | o :: rest, s, lg, hv => by
    obtain ⟨s1, hv, e1⟩ := guardCase_elim hv
    obtain ⟨R, W, hv, _, hev⟩ := Rd.ev_of_wp hv
    rw [St.setsK_eq] at hv
    obtain ⟨logs, s', hK, hc⟩ := vops_chain hv
    refine ⟨⟨R, W⟩ :: logs, s', by simpa using hK, R, W, logs, rfl, fun g hg => hev g (fun p hp => by rw [hg p hp, e1]), ?_⟩
    rw [look_sets, e1] at hc
    exact hc
theorem chain_list (hT : TyOK P C.Γ) (hA : ∀ g ys r outs, C.ac g ys r outs → AC P C.G g ys r outs) {ops : Array Oper} : ∀ {l : List Oper} {f f' : LF} {logs : List Log} {h : IH} {β : BM} {a : Act} {w : World}, Chain C E.N ops.toList l f logs f' → Sim C.G E f h β a w → (∀ h' β' a' w', Sim C.G E f' h' β' a' w' → Q .normal a' w') → wpList P ops Q l a w
  | [], f, f', logs, h, β, a, w, hc, hs, hQ => by
    obtain ⟨_, rfl⟩ := hc
    exact hQ _ _ _ _ hs
  | o :: rest, f, f', logs, h, β, a, w, hc, hs, hQ => by
    obtain ⟨R, W, logs', rfl, hev, hc⟩ := hc
    refine wpList_step fun K hK => ?_
    exact step_ok hT hA (hev f (fun _ _ => rfl)) hs (fun h' β' a' w' s' => hK _ _ (chain_list hT hA hc s' hQ))
theorem sim_drop {s : St} (hs : Sim C.G E s.look h β a w) : Sim C.G E (St.mk s.vars [] s.heap).look h β a w :=
  hs.forget fun p => look_drop s.vars s.temps s.heap p

/-! ## Any order -/
def runD : List Log → Nat → (Nat → Bool) → LF → LF
  | [], _, _, f => f
  | L :: Ls, k, d, f => runD Ls (k + 1) d (if d k then updL f L.W else f)
def Hits (W : Ws) (p : Pl) : Prop := ∃ x ∈ W, x.1 = p
theorem updL_miss {W : Ws} {p : Pl} {f : LF} (hm : ¬ Hits W p) : updL f W p = f p := updL_other fun x hx e => hm ⟨x, hx, e⟩
theorem updL_hit : ∀ {W : Ws} {p : Pl} {f g : LF}, Hits W p → updL f W p = updL g W p
  | [], p, f, g, hh => by obtain ⟨x, hx, _⟩ := hh; cases hx
  | (q, y) :: W, p, f, g, hh => by
    simp only [updL]
    by_cases hW : Hits W p
    · exact updL_hit hW
    · obtain ⟨x, hx, e⟩ := hh
      rcases List.mem_cons.1 hx with r | r
      · subst r
        rw [updL_miss hW, updL_miss hW]; simp only at e; subst e; simp [upd]
      · exact absurd ⟨x, r, e⟩ hW
theorem runD_congr {p : Pl} : ∀ {Ls : List Log} {k : Nat} {d d' : Nat → Bool} {f g : LF}, (∀ j L, Ls[j]? = some L → Hits L.W p → d (k + j) = d' (k + j)) → f p = g p → runD Ls k d f p = runD Ls k d' g p
  | [], _, _, _, _, _, _, e => e
  | L :: Ls, k, d, d', f, g, hd, e => by
    simp only [runD]
    refine runD_congr (fun j L' hj hh => by
      have := hd (j + 1) L' (by simpa using hj) hh
      rwa [show k + (j + 1) = k + 1 + j from by omega] at this) ?_
    by_cases hh : Hits L.W p
    · have := hd 0 L rfl hh
      simp only [Nat.add_zero] at this
      rw [this]
      split
      · exact updL_hit hh
      · exact e
    · have h1 : ∀ (b : Bool) (f : LF), (if b then updL f L.W else f) p = f p := fun b f => by cases b <;> simp [updL_miss hh]
      rw [h1, h1, e]
theorem runD_keep {p : Pl} {v : AV} : ∀ {Ls : List Log} {k : Nat} {d : Nat → Bool} {f : LF}, f p = v → (∀ j L, Ls[j]? = some L → d (k + j) = true → Hits L.W p → ∀ g : LF, updL g L.W p = v) → runD Ls k d f p = v
  | [], _, _, _, e, _ => e
  | L :: Ls, k, d, f, e, hd => by
    simp only [runD]
    refine runD_keep ?_ (fun j L' hj ht hh => hd (j + 1) L' (by simpa using hj) (by rwa [show k + (j + 1) = k + 1 + j from by omega]) hh)
    by_cases hk : d k = true
    · rw [if_pos hk]
      by_cases hh : Hits L.W p
      · exact hd 0 L rfl hk hh f
      · rw [updL_miss hh, e]
    · rw [if_neg hk, e]
theorem runD_none {Ls : List Log} {k : Nat} {d : Nat → Bool} {f : LF} (hd : ∀ j, d (k + j) = false) : runD Ls k d f = f := by
  funext p
  exact runD_keep rfl (fun j L _ ht => by rw [hd j] at ht; cases ht)
theorem chain_at {N : Nat} {ops : List Oper} : ∀ {l : List Oper} {f f' : LF} {logs : List Log} (k : Nat), Chain C N ops l f logs f' → ∀ {i : Nat} {o : Oper}, l[i]? = some o →
    ∃ L, logs[i]? = some L ∧ ∀ g : LF, (∀ p ∈ L.R, g p = runD logs k (fun j => decide (j < k + i)) f p) → (stepRd C N ops o).ev g L.W
  | [], _, _, _, _, _, i, o, hi => by simp at hi
  | x :: rest, f, f', logs, k, hc, 0, o, hi => by
    obtain ⟨R, W, logs', rfl, hev, hc⟩ := hc
    simp at hi; subst hi
    refine ⟨_, rfl, fun g hg => hev g (fun p hp => ?_)⟩
    rw [hg p hp, runD_none (fun j => by simp)]
  | x :: rest, f, f', logs, k, hc, i + 1, o, hi => by
    obtain ⟨R, W, logs', rfl, hev, hc⟩ := hc
    obtain ⟨L, h1, h2⟩ := chain_at (k + 1) hc (i := i) (o := o) (by simpa using hi)
    refine ⟨L, by simpa using h1, fun g hg => h2 g (fun p hp => ?_)⟩
    rw [hg p hp]
    simp only [runD]
    rw [if_pos (by simp)]
    have : ∀ j, decide (j < k + (i + 1)) = decide (j < k + 1 + i) := fun j => by rw [show k + (i + 1) = k + 1 + i from by omega]
    simp only [this]
theorem chain_end {N : Nat} {ops : List Oper} : ∀ {l : List Oper} {f f' : LF} {logs : List Log} (k : Nat), Chain C N ops l f logs f' → logs.length = l.length ∧ f' = runD logs k (fun _ => true) f
  | [], _, _, _, _, hc => by obtain ⟨rfl, rfl⟩ := hc; exact ⟨rfl, rfl⟩
  | x :: rest, f, f', logs, k, hc => by
    obtain ⟨R, W, logs', rfl, hev, hc⟩ := hc
    obtain ⟨h1, h2⟩ := chain_end (k + 1) hc
    exact ⟨by simp [h1], by rw [h2]; rfl⟩
theorem Pl.mem_iff {p : Pl} : ∀ {l : List Pl}, Pl.mem p l = true ↔ p ∈ l
  | [] => by simp [Pl.mem]
  | q :: qs => by simp [Pl.mem, Pl.beq_iff, Pl.mem_iff (l := qs)]
theorem hitsR_false {R : List Pl} : ∀ {W : Ws}, hitsR R W = false → ∀ p ∈ R, ¬ Hits W p
  | [], _, p, _, hh => by obtain ⟨x, hx, _⟩ := hh; cases hx
  | (q, y) :: W, hf, p, hp, hh => by
    simp only [hitsR, Bool.or_eq_false_iff] at hf
    obtain ⟨x, hx, e⟩ := hh
    rcases List.mem_cons.1 hx with r | r
    · subst r; simp only at e; subst e
      have := Pl.mem_iff.2 hp; rw [this] at hf; cases hf.1
    · exact hitsR_false hf.2 p hp ⟨x, r, e⟩
theorem isFz_iff {x : AV} (hx : isFz x = true) : x = .lrow true := by
  unfold isFz at hx; split at hx
  · rfl
  · cases hx
theorem hitsW1_false {p : Pl} {x : AV} : ∀ {W : Ws}, hitsW1 p x W = false → ∀ y, (p, y) ∈ W → x = .lrow true ∧ y = .lrow true
  | [], _, y, hy => by cases hy
  | (q, z) :: W, hf, y, hy => by
    simp only [hitsW1, Bool.or_eq_false_iff] at hf
    rcases List.mem_cons.1 hy with r | r
    · simp only [Prod.mk.injEq] at r; obtain ⟨rfl, rfl⟩ := r
      have h1 := hf.1
      rw [Pl.beq_iff.2 rfl] at h1
      simp only [Bool.true_and, Bool.not_eq_false', Bool.and_eq_true] at h1
      exact ⟨isFz_iff h1.1, isFz_iff h1.2⟩
    · exact hitsW1_false hf.2 y r
theorem hitsW_false {V : Ws} : ∀ {W : Ws}, hitsW V W = false → ∀ p x y, (p, x) ∈ W → (p, y) ∈ V → x = .lrow true ∧ y = .lrow true
  | [], _, _, _, _, hx, _ => by cases hx
  | (q, z) :: W, hf, p, x, y, hx, hy => by
    simp only [hitsW, Bool.or_eq_false_iff] at hf
    rcases List.mem_cons.1 hx with r | r
    · simp only [Prod.mk.injEq] at r; obtain ⟨rfl, rfl⟩ := r
      exact hitsW1_false hf.1 y hy
    · exact hitsW_false hf.2 p x y r hy
/-- two logs that do not clash -/
structure Calm (x y : Log) : Prop where
  r1 : ∀ p ∈ x.R, ¬ Hits y.W p
  r2 : ∀ p ∈ y.R, ¬ Hits x.W p
  w : ∀ p, Hits x.W p → Hits y.W p → (∀ g : LF, updL g x.W p = .lrow true) ∧ ∀ g : LF, updL g y.W p = .lrow true
theorem updL_all {v : AV} : ∀ {W : Ws} {p : Pl}, Hits W p → (∀ y, (p, y) ∈ W → y = v) → ∀ g : LF, updL g W p = v
  | [], p, hh, _, g => by obtain ⟨x, hx, _⟩ := hh; cases hx
  | (q, z) :: W, p, hh, hall, g => by
    simp only [updL]
    by_cases hW : Hits W p
    · exact updL_all hW (fun y hy => hall y (List.mem_cons_of_mem _ hy)) _
    · obtain ⟨x, hx, e⟩ := hh
      rcases List.mem_cons.1 hx with r | r
      · subst r
        rw [updL_miss hW]; simp only at e; subst e
        simp only [upd, if_true]; exact hall z List.mem_cons_self
      · exact absurd ⟨x, r, e⟩ hW
theorem calm_of {x y : Log} (hc : x.clash y = false) : Calm x y := by
  simp only [Log.clash, Bool.or_eq_false_iff] at hc
  refine ⟨hitsR_false hc.1.1, hitsR_false hc.1.2, fun p hx hy => ?_⟩
  have key := hitsW_false hc.2
  obtain ⟨⟨p1, v1⟩, m1, e1⟩ := hx
  obtain ⟨⟨p2, v2⟩, m2, e2⟩ := hy
  simp only at e1 e2; subst e1; subst e2
  exact ⟨updL_all ⟨_, m1, rfl⟩ (fun y hy => (key _ _ _ m2 hy).2), updL_all ⟨_, m2, rfl⟩ (fun y hy => (key _ _ _ hy m1).1)⟩
theorem waits_at {b : Nat} {y : Log} : ∀ {xs : List Log} {i : Nat}, waits b y i xs = true → ∀ {j : Nat} {x : Log}, xs[j]? = some x → Nat.testBit b (i + j) = true ∨ Calm x y
  | [], _, _, j, x, hj => by simp at hj
  | z :: zs, i, hw, j, x, hj => by
    simp only [waits, Bool.and_eq_true, Bool.or_eq_true, Bool.not_eq_true'] at hw
    cases j with
    | zero => simp at hj; subst hj; exact hw.1.imp id calm_of
    | succ j =>
      have := waits_at hw.2 (j := j) (x := x) (by simpa using hj)
      rwa [show i + 1 + j = i + (j + 1) from by omega] at this
theorem allWait_at {bs : List Nat} : ∀ {ys pre : List Log}, allWait bs pre.length pre ys = true → ∀ {i j : Nat} {x y : Log}, i < j → pre.length ≤ j → (pre ++ ys)[i]? = some x → (pre ++ ys)[j]? = some y → Nat.testBit (bs.getD j 0) i = true ∨ Calm x y
  | [], pre, _, i, j, x, y, _, hj, _, h2 => by
    rw [List.append_nil, List.getElem?_eq_none hj] at h2; cases h2
  | z :: zs, pre, hw, i, j, x, y, hij, hj, h1, h2 => by
    simp only [allWait, Bool.and_eq_true] at hw
    by_cases e : j = pre.length
    · subst e
      rw [List.getElem?_append_right (Nat.le_refl _), Nat.sub_self] at h2
      simp at h2; subst h2
      rw [List.getElem?_append_left hij] at h1
      have := waits_at hw.1 h1
      rwa [Nat.zero_add] at this
    · have hw2 : allWait bs (pre ++ [z]).length (pre ++ [z]) zs = true := by simpa using hw.2
      exact allWait_at hw2 hij (by simp; omega) (by simpa using h1) (by simpa using h2)
end
end Go.Proofs.YtaklcemgpinleaaDoor
