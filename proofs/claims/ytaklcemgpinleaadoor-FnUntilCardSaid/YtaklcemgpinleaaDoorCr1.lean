/- What an abstract state says of a machine's state, and that what is laid out is what was there: lemmas of the layer, on no condition. -/
import Derived.Test.YtaklcemgpinleaaDoorCr0
namespace Go.Proofs.YtaklcemgpinleaaDoor
open Go
set_option linter.unusedSimpArgs false
set_option linter.unusedVariables false
set_option linter.unnecessarySimpa false
set_option linter.unusedSectionVars false

theorem natbeq_false {a b : Nat} (h : a ≠ b) : Nat.beq a b = false := by
  cases hb : Nat.beq a b
  · rfl
  · exact absurd (Nat.eq_of_beq_eq_true hb) h
theorem Nm.beq_iff : ∀ {a b : Nm}, Nm.beq a b = true ↔ a = b
  | .site a, b => by cases b <;> simp [Nm.beq]
  | .inv a, b => by cases b <;> simp [Nm.beq]
  | .arg a, b => by cases b <;> simp [Nm.beq]
  | .sub n a, b => by cases b <;> simp [Nm.beq, Nm.beq_iff (a := n), and_comm]
theorem Pl.beq_iff {a b : Pl} : Pl.beq a b = true ↔ a = b := by
  cases a <;> cases b <;> simp [Pl.beq, Nm.beq_iff, and_comm]
theorem Nm.mem_iff {n : Nm} : ∀ {l : List Nm}, Nm.mem n l = true ↔ n ∈ l
  | [] => by simp [Nm.mem]
  | m :: ms => by simp [Nm.mem, Nm.beq_iff, Nm.mem_iff (l := ms)]
theorem Nm.nodup_iff : ∀ {l : List Nm}, Nm.nodup l = true ↔ l.Nodup
  | [] => by simp [Nm.nodup]
  | m :: ms => by
    have h : Nm.mem m ms = false ↔ m ∉ ms := by rw [← Nm.mem_iff (n := m)]; simp
    simp [Nm.nodup, Nm.nodup_iff (l := ms), h]

/-! ## What is laid out is what was there -/
section
variable {α : Sort _}
theorem Nm.force_eq : ∀ (n : Nm) (k : Nm → α), n.force k = k n
  | .site _, _ => rfl | .inv _, _ => rfl | .arg _, _ => rfl
  | .sub n _, _ => by rw [Nm.force, Nm.force_eq n]
theorem Pl.force_eq (p : Pl) (k : Pl → α) : p.force k = k p := by cases p <;> simp [Pl.force, Nm.force_eq]
theorem AV.force0_eq (a : AV) (k : AV → α) : a.force0 k = k a := by cases a <;> simp [AV.force0, Nm.force_eq]
theorem AV.forceL0_eq : ∀ (l : List AV) (k : List AV → α), AV.forceL0 l k = k l
  | [], _ => rfl
  | a :: as, k => by rw [AV.forceL0, AV.force0_eq, AV.forceL0_eq as]
theorem AV.force1_eq (a : AV) (k : AV → α) : a.force1 k = k a := by cases a <;> simp [AV.force1, AV.force0_eq, AV.forceL0_eq]
theorem AV.forceL1_eq : ∀ (l : List AV) (k : List AV → α), AV.forceL1 l k = k l
  | [], _ => rfl
  | a :: as, k => by rw [AV.forceL1, AV.force1_eq, AV.forceL1_eq as]
theorem AV.force_eq (a : AV) (k : AV → α) : a.force k = k a := by cases a <;> simp [AV.force, AV.force1_eq, AV.forceL1_eq]
theorem forceW_eq : ∀ (l : Ws) (k : Ws → α), forceW l k = k l
  | [], _ => rfl
  | (p, a) :: ws, k => by rw [forceW, Pl.force_eq, AV.force_eq, forceW_eq ws]
theorem forceV_eq : ∀ (l : List (Nat × AV)) (k : List (Nat × AV) → α), forceV l k = k l
  | [], _ => rfl
  | (p, a) :: ws, k => by rw [forceV, AV.force_eq, forceV_eq ws]
theorem forceT_eq : ∀ (l : List TV) (k : List TV → α), forceT l k = k l
  | [], _ => rfl
  | a :: as, k => by rw [forceT, forceT_eq as]
theorem forceR_eq : ∀ (l : Rows) (k : Rows → α), forceR l k = k l
  | [], _ => rfl
  | a :: as, k => by rw [forceR, forceT_eq, forceR_eq as]
theorem putNK_eq (t : Nat) (a : AV) : ∀ (l : List (Nat × AV)) (k : List (Nat × AV) → α) (e : α), putNK t a l k e = (match putN t a l with | some l => k l | none => e)
  | [], _, _ => rfl
  | (u, b) :: l, k, e => by
    simp only [putNK, putN]
    cases Nat.beq u t <;> simp [putNK_eq t a l]
    cases putN t a l <;> rfl
theorem putPK_eq (p : Pl) (a : AV) : ∀ (l : List (Pl × AV)) (k : List (Pl × AV) → α), putPK p a l k = k (putP p a l)
  | [], _ => rfl
  | (u, b) :: l, k => by
    simp only [putPK, putP]
    cases Pl.beq u p <;> simp [putPK_eq p a l]
theorem St.setK_eq (s : St) (p : Pl) (a : AV) (k : St → α) : s.setK p a k = k (s.set p a) := by
  obtain ⟨v, t, h⟩ := s
  cases p <;> simp only [St.setK, St.set, putPK_eq, putNK_eq]
  cases putN _ a v <;> rfl
theorem St.setsK_eq : ∀ (s : St) (ws : Ws) (k : St → α), s.setsK ws k = k (s.sets ws)
  | _, [], _ => rfl
  | s, (p, a) :: ws, k => by rw [St.setsK, St.setK_eq, St.setsK_eq _ ws]; rfl
end

/-! ## A state as a function of places -/
abbrev LF := Pl → AV
def upd (f : LF) (p : Pl) (a : AV) : LF := fun q => if q = p then a else f q
def updL (f : LF) : Ws → LF
  | [] => f
  | (p, a) :: ws => updL (upd f p a) ws
theorem lookN_putN {t : Nat} {a : AV} : ∀ {l l' : List (Nat × AV)}, putN t a l = some l' → ∀ u, lookN u l' = if u = t then some a else lookN u l
  | [], _, h => by simp [putN] at h
  | (v, b) :: l, l', h => by
    intro u
    simp only [putN] at h
    by_cases hv : v = t
    · subst hv; simp at h; subst h
      by_cases hu : u = v
      · subst hu; simp [lookN]
      · have : Nat.beq v u = false := natbeq_false (Ne.symm hu)
        simp [lookN, this, hu]
    · have hb : Nat.beq v t = false := natbeq_false hv
      simp only [hb, cond_false] at h
      cases hp : putN t a l with
      | none => simp [hp] at h
      | some l2 =>
        simp [hp] at h; subst h
        have ih := lookN_putN hp u
        by_cases hu : u = v
        · subst hu; simp [lookN, hv]
        · have : Nat.beq v u = false := natbeq_false (Ne.symm hu)
          simp [lookN, this, ih]
theorem lookN_none_putN {t : Nat} {a : AV} : ∀ {l : List (Nat × AV)}, putN t a l = none → lookN t l = none
  | [], _ => rfl
  | (v, b) :: l, h => by
    simp only [putN] at h
    cases hb : Nat.beq v t with
    | true => simp [hb] at h
    | false =>
      simp only [hb, cond_false] at h
      cases hp : putN t a l with
      | none => simp [lookN, hb, lookN_none_putN hp]
      | some l2 => simp [hp] at h
theorem lookP_putP {p : Pl} {a : AV} : ∀ {l : List (Pl × AV)} (q : Pl), lookP q (putP p a l) = if q = p then a else lookP q l
  | [], q => by
    simp only [putP, lookP]
    by_cases h : q = p
    · subst h; simp [Pl.beq_iff.2 rfl]
    · have : Pl.beq p q = false := by rw [← Bool.not_eq_true, Pl.beq_iff]; exact fun e => h e.symm
      simp [this, h]
  | (v, b) :: l, q => by
    simp only [putP]
    by_cases hv : v = p
    · subst hv
      simp only [Pl.beq_iff.2 rfl, cond_true, lookP]
      by_cases h : q = v
      · subst h; simp [Pl.beq_iff.2 rfl]
      · have : Pl.beq v q = false := by rw [← Bool.not_eq_true, Pl.beq_iff]; exact fun e => h e.symm
        simp [this, h]
    · have hb : Pl.beq v p = false := by rw [← Bool.not_eq_true, Pl.beq_iff]; exact hv
      simp only [hb, cond_false, lookP]
      by_cases h : q = v
      · subst h; simp [Pl.beq_iff.2 rfl, hv]
      · have : Pl.beq v q = false := by rw [← Bool.not_eq_true, Pl.beq_iff]; exact fun e => h e.symm
        simp [this, lookP_putP (l := l) q]
theorem look_set (s : St) (p : Pl) (a : AV) : (s.set p a).look = upd s.look p a := by
  funext q
  obtain ⟨v, t, h⟩ := s
  cases p with
  | tmp u =>
    simp only [St.set]
    cases hp : putN u a v with
    | none =>
      have hn := lookN_none_putN hp
      cases q with
      | tmp w =>
        simp only [St.look, upd, Pl.tmp.injEq]
        by_cases hw : w = u
        · subst hw; simp [hn, lookN]
        · have : Nat.beq u w = false := natbeq_false (Ne.symm hw)
          simp [lookN, this, hw]
      | _ => simp [St.look, upd]
    | some l =>
      have hl := lookN_putN hp
      cases q with
      | tmp w =>
        simp only [St.look, upd, Pl.tmp.injEq, hl]
        by_cases hw : w = u <;> simp [hw]
      | _ => simp [St.look, upd]
  | _ =>
    cases q <;> simp [St.set, St.look, upd, lookP_putP]
theorem look_sets : ∀ (s : St) (ws : Ws), (s.sets ws).look = updL s.look ws
  | _, [] => rfl
  | s, (p, a) :: ws => by rw [St.sets, look_sets _ ws, look_set]; rfl
theorem look_drop (v t : List (Nat × AV)) (h : List (Pl × AV)) (p : Pl) : (St.mk v [] h).look p = (St.mk v t h).look p ∨ (∃ u, p = .tmp u) ∧ (St.mk v [] h).look p = .undef := by
  cases p with
  | tmp u => simp only [St.look]; cases lookN u v <;> simp [lookN]
  | _ => exact .inl rfl

/-! ## One operation's outcome, without what follows -/
def Rd.ev : Rd → LF → Ws → Prop
  | .done ws, _, ws' => ws' = ws
  | .get p k, f, ws => (k (f p)).ev f ws
  | .need c k, f, ws => c ∧ k.ev f ws
  | .br b t e, f, ws => (b = true ∧ t.ev f ws) ∨ (b = false ∧ e.ev f ws)
  | .elem rows i k, f, ws => ∃ r, rows[i]? = some r ∧ (k r).ev f ws
  | .ex P k, f, ws => ∃ r outs, P r outs ∧ (k r outs).ev f ws
theorem Br_elim {b : Bool} {X Y : Prop} (h : Br b X Y) : (b = true ∧ X) ∨ (b = false ∧ Y) := by
  cases b
  · exact .inr ⟨rfl, h⟩
  · exact .inl ⟨rfl, h⟩
theorem Br_intro {b : Bool} {X Y : Prop} (h1 : b = true → X) (h2 : b = false → Y) : Br b X Y := by cases b; exact h2 rfl; exact h1 rfl
theorem Br_true {b : Bool} {X Y : Prop} (h : b = true) (h1 : X) : Br b X Y := by subst h; exact h1
theorem Br_false {b : Bool} {X Y : Prop} (h : b = false) (h1 : Y) : Br b X Y := by subst h; exact h1
/-- What the condition shows of an operation: it comes to writes, and in every state that agrees with this one in what was read, to the same. -/
theorem Rd.ev_of_wp {s : St} : ∀ {r : Rd} {R : List Pl} {K : List Pl → Ws → Prop}, r.wp s R K →
    ∃ R' ws, K R' ws ∧ R ⊆ R' ∧ ∀ f : LF, (∀ p ∈ R', f p = s.look p) → r.ev f ws := by
  intro r
  induction r with
  | done ws => intro R K h; simp only [Rd.wp, forceW_eq] at h; exact ⟨R, ws, h, fun _ => id, fun _ _ => rfl⟩
  | get p k ih =>
    intro R K h
    simp only [Rd.wp, Pl.force_eq, AV.force_eq] at h
    obtain ⟨R', ws, hK, hR, hf⟩ := ih _ h
    refine ⟨R', ws, hK, fun x hx => hR (List.mem_cons_of_mem _ hx), fun f hp => ?_⟩
    simp only [Rd.ev]
    rw [hp p (hR List.mem_cons_self)]
    exact hf f hp
  | need c k ih =>
    intro R K h
    obtain ⟨R', ws, hK, hR, hf⟩ := ih h.2
    exact ⟨R', ws, hK, hR, fun f hp => ⟨h.1, hf f hp⟩⟩
  | br b t e iht ihe =>
    intro R K h
    rcases Br_elim h with ⟨hb, h⟩ | ⟨hb, h⟩
    · obtain ⟨R', ws, hK, hR, hf⟩ := iht h
      exact ⟨R', ws, hK, hR, fun f hp => .inl ⟨hb, hf f hp⟩⟩
    · obtain ⟨R', ws, hK, hR, hf⟩ := ihe h
      exact ⟨R', ws, hK, hR, fun f hp => .inr ⟨hb, hf f hp⟩⟩
  | elem rows i k ih =>
    intro R K h
    obtain ⟨r, hr, h⟩ := h
    obtain ⟨R', ws, hK, hR, hf⟩ := ih _ h
    exact ⟨R', ws, hK, hR, fun f hp => ⟨r, hr, hf f hp⟩⟩
  | ex P k ih =>
    intro R K h
    obtain ⟨r, outs, hP, h⟩ := h
    obtain ⟨R', ws, hK, hR, hf⟩ := ih _ _ h
    exact ⟨R', ws, hK, hR, fun f hp => ⟨r, outs, hP, hf f hp⟩⟩

/-! ## Values -/
/-- Memory that does not change any more. -/
abbrev IH := Nat → Option Obj
def IH.le (h h' : IH) : Prop := ∀ b o, h b = some o → h' b = some o
def IH.on (h : IH) (w : World) : Prop := ∀ b o, h b = some o → w.heap[b]? = some o
theorem IH.le_refl (h : IH) : h.le h := fun _ _ => id
theorem IH.le_trans {a b c : IH} (h : a.le b) (k : b.le c) : a.le c := fun x o e => k x o (h x o e)
def scalar : Value → Bool
  | .bool _ | .int _ _ | .string _ => true
  | _ => false
inductive Rep (h : IH) : TV → Value → Prop where
  | v {x : Value} (hx : scalar x = true) : Rep h (.v x) x
  | nil {k : Nat} : Rep h (.sl k []) (.slice none 0 0)
  | sl {k : Nat} {rows : Rows} {b off cap : Nat} {cs : Array Value} {T : TypeId} {fr : Nat × Nat} (val : Nat → Nat → Value)
      (hb : h b = some (.cells cs T fr)) (hk : ∀ r ∈ rows, r.length = k) (hcap : rows.length ≤ cap)
      (hv : ∀ i j r x, rows[i]? = some r → r[j]? = some x → cs[off + (i * k + j)]? = some (val i j))
      (hr : ∀ i j r x, rows[i]? = some r → r[j]? = some x → Rep h x (val i j)) : Rep h (.sl k rows) (.slice (some ⟨b, off, none⟩) rows.length cap)
theorem Rep.mono {h h' : IH} (hle : h.le h') {x : TV} {v : Value} (hr : Rep h x v) : Rep h' x v := by
  induction hr with
  | v hx => exact .v hx
  | nil => exact .nil
  | sl val hb hk hcap hv _ ih => exact .sl val (hle _ _ hb) hk hcap hv ih
/-- Rows of cells from a place on. -/
def RowsAt (h : IH) (cs : Array Value) (off k : Nat) (rows : Rows) : Prop :=
  (∀ r ∈ rows, r.length = k) ∧ ∃ val : Nat → Nat → Value, (∀ i j r x, rows[i]? = some r → r[j]? = some x → cs[off + (i * k + j)]? = some (val i j)) ∧
    ∀ i j r x, rows[i]? = some r → r[j]? = some x → Rep h x (val i j)
theorem RowsAt.mono {h h' : IH} (hle : h.le h') {cs : Array Value} {off k : Nat} {rows : Rows} (hr : RowsAt h cs off k rows) : RowsAt h' cs off k rows :=
  ⟨hr.1, hr.2.elim fun val hv => ⟨val, hv.1, fun i j r x h1 h2 => (hv.2 i j r x h1 h2).mono hle⟩⟩
/-- Cells from a place on. -/
def CellsAt (h : IH) (cs : Array Value) (off : Nat) (r : List TV) : Prop :=
  ∀ j x, r[j]? = some x → ∃ v, cs[off + j]? = some v ∧ Rep h x v
theorem RowsAt.cells {h : IH} {cs : Array Value} {off k : Nat} {rows : Rows} (hr : RowsAt h cs off k rows) {i : Nat} {r : List TV} (hi : rows[i]? = some r) : CellsAt h cs (off + i * k) r := by
  obtain ⟨_, val, h1, h2⟩ := hr
  intro j x hj
  exact ⟨val i j, by rw [Nat.add_assoc]; exact h1 i j r x hi hj, h2 i j r x hi hj⟩
theorem RowsAt.of_cells {h : IH} {cs : Array Value} {off k : Nat} {rows : Rows} (hk : ∀ r ∈ rows, r.length = k) (hc : ∀ i r, rows[i]? = some r → CellsAt h cs (off + i * k) r) : RowsAt h cs off k rows := by
  refine ⟨hk, fun i j => (cs[off + (i * k + j)]?).getD undef, ?_, ?_⟩
  · intro i j r x hi hj
    obtain ⟨v, hv, _⟩ := hc i r hi j x hj
    rw [Nat.add_assoc] at hv
    simp [hv]
  · intro i j r x hi hj
    obtain ⟨v, hv, hr⟩ := hc i r hi j x hj
    rw [Nat.add_assoc] at hv
    simpa [hv] using hr
theorem Rep.sl_inv {h : IH} {k : Nat} {rows : Rows} {v : Value} (hr : Rep h (.sl k rows) v) :
    (rows = [] ∧ v = .slice none 0 0) ∨ ∃ b off cap cs T fr, v = .slice (some ⟨b, off, none⟩) rows.length cap ∧ h b = some (.cells cs T fr) ∧ rows.length ≤ cap ∧ RowsAt h cs off k rows := by
  cases hr with
  | nil => exact .inl ⟨rfl, rfl⟩
  | sl val hb hk hcap hv hr => exact .inr ⟨_, _, _, _, _, _, rfl, hb, hcap, hk, val, hv, hr⟩
theorem Rep.sl_mk {h : IH} {k : Nat} {rows : Rows} {b off cap : Nat} {cs : Array Value} {T : TypeId} {fr : Nat × Nat} (hb : h b = some (.cells cs T fr)) (hcap : rows.length ≤ cap) (hr : RowsAt h cs off k rows) {n : Nat} (hn : n = rows.length) :
    Rep h (.sl k rows) (.slice (some ⟨b, off, none⟩) n cap) := by
  subst hn
  obtain ⟨hk, val, h1, h2⟩ := hr
  exact .sl val hb hk hcap h1 h2
end Go.Proofs.YtaklcemgpinleaaDoor
