/- Loops: a state is seen as another's instance, names renamed; lemmas of the layer. -/
import Derived.Test.YtaklcemgpinleaaDoorCr18
import Derived.LoopN
namespace Go.Proofs.YtaklcemgpinleaaDoor
open Go
set_option linter.unusedSimpArgs false
set_option linter.unusedVariables false
set_option linter.unnecessarySimpa false
set_option linter.unusedSectionVars false

/-- A loop's state, laid out: slots, what stands under names, ghosts. -/
inductive HE where
  | row (fr : Bool) (k : Nat) (rows : Rows)
  | box (cells : List AV)
structure LSt where
  vars : List (Nat × AV)
  heap : List (Nm × HE)
  gh : List (Nat × AV)
def HE.ws (n : Nm) : HE → Ws
  | .row fr k rows => [(.live n, .lrow fr), (.row n, .rowc k rows)]
  | .box cells => (.live n, .lbox cells.length) :: cellsW n 0 cells
def ghOf : List (Nat × AV) → List (Pl × AV)
  | [] => []
  | (j, a) :: gs => (.gh j, a) :: ghOf gs
def heapOf (gs : List (Nat × AV)) : List (Nm × HE) → List (Pl × AV)
  | [] => ghOf gs
  | (n, e) :: hs => e.ws n ++ heapOf gs hs
def LSt.st (l : LSt) : St := ⟨l.vars, [], heapOf l.gh l.heap⟩
/-! the same, laid out -/
def ghK {α : Sort _} : List (Nat × AV) → (List (Pl × AV) → α) → α
  | [], k => k []
  | (j, a) :: gs, k => ghK gs fun l => k ((.gh j, a) :: l)
def cellsK {α : Sort _} (n : Nm) : Nat → List AV → List (Pl × AV) → (List (Pl × AV) → α) → α
  | _, [], tl, k => k tl
  | c, a :: as, tl, k => cellsK n (c + 1) as tl fun l => k ((.cell n c, a) :: l)
def heapK {α : Sort _} (gs : List (Nat × AV)) : List (Nm × HE) → (List (Pl × AV) → α) → α
  | [], k => ghK gs k
  | (n, .row fr r rows) :: hs, k => heapK gs hs fun tl => k ((.live n, .lrow fr) :: (.row n, .rowc r rows) :: tl)
  | (n, .box cells) :: hs, k => heapK gs hs fun tl => cellsK n 0 cells tl fun l => k ((.live n, .lbox cells.length) :: l)
def LSt.go {α : Sort _} (l : LSt) (k : St → α) : α := match l with | ⟨v, h, g⟩ => heapK g h fun hp => k ⟨v, [], hp⟩
theorem ghK_eq {α : Sort _} : ∀ (gs : List (Nat × AV)) (k : List (Pl × AV) → α), ghK gs k = k (ghOf gs)
  | [], _ => rfl
  | (j, a) :: gs, k => by rw [ghK, ghK_eq gs]; rfl
theorem cellsK_eq {α : Sort _} (n : Nm) : ∀ (as : List AV) (c : Nat) (tl : List (Pl × AV)) (k : List (Pl × AV) → α), cellsK n c as tl k = k (cellsW n c as ++ tl)
  | [], _, _, _ => rfl
  | a :: as, c, tl, k => by rw [cellsK, cellsK_eq n as]; rfl
theorem heapK_eq {α : Sort _} (gs : List (Nat × AV)) : ∀ (hs : List (Nm × HE)) (k : List (Pl × AV) → α), heapK gs hs k = k (heapOf gs hs)
  | [], k => ghK_eq gs k
  | (n, .row fr r rows) :: hs, k => by rw [heapK, heapK_eq gs hs]; rfl
  | (n, .box cells) :: hs, k => by rw [heapK, heapK_eq gs hs, cellsK_eq]; rfl
theorem LSt.go_eq {α : Sort _} (l : LSt) (k : St → α) : l.go k = k l.st := by obtain ⟨v, h, g⟩ := l; exact heapK_eq g h _

/-! Renaming: 'r' leads from the loop's names to those at hand. -/
def renN (r : List (Nm × Nm)) (n : Nm) : Nm :=
  match r with
  | [] => n
  | (m, m') :: r => bif Nm.beq m n then m' else renN r n
def renC (r : List (Nm × Nm)) : AV → AV
  | .own n k => .own (renN r n) k
  | .part n k i l => .part (renN r n) k i l
  | .ptr n c => .ptr (renN r n) c
  | .eptr n k i c => .eptr (renN r n) k i c
  | a => a
def renL (r : List (Nm × Nm)) : List AV → List AV
  | [] => []
  | a :: as => renC r a :: renL r as
def renT (r : List (Nm × Nm)) : AV → AV
  | .agg as => .agg (renL r as)
  | a => renC r a
def renTL (r : List (Nm × Nm)) : List AV → List AV
  | [] => []
  | a :: as => renT r a :: renTL r as
def renR (r : List (Nm × Nm)) : AV → AV
  | .tup as => .tup (renTL r as)
  | .fn f as => .fn f (renTL r as)
  | a => renT r a
/-- the value at hand fits the loop's: a frozen row may be seen as the slice that it is -/
def fitC (f : LF) (r : List (Nm × Nm)) (src tgt : AV) : Prop :=
  match tgt with
  | .undef => True
  | .t x => match src with
    | .t y => y = x
    | .own n _ => match f (.live n) with
      | .lrow true => match f (.row n) with | .rowc k rows => TV.sl k rows = x | _ => False
      | _ => False
    | .part n _ i len => match f (.live n) with
      | .lrow true => match f (.row n) with | .rowc k rows => TV.sl k ((rows.drop i).take len) = x | _ => False
      | _ => False
    | _ => False
  | tgt => src = renR r tgt
def fitL (f : LF) (r : List (Nm × Nm)) : List AV → List AV → Prop
  | [], [] => True
  | a :: as, b :: bs => fitC f r a b ∧ fitL f r as bs
  | _, _ => False
def fitR (f : LF) (r : List (Nm × Nm)) (src tgt : AV) : Prop :=
  match tgt with
  | .agg bs => match src with | .agg as => fitL f r as bs | _ => False
  | tgt => fitC f r src tgt
def fitV (f : LF) (r : List (Nm × Nm)) : List (Nat × AV) → Prop
  | [] => True
  | (t, a) :: l => fitR f r (f (.tmp t)) a ∧ fitV f r l
def fitG (f : LF) (r : List (Nm × Nm)) : List (Nat × AV) → Prop
  | [] => True
  | (t, a) :: l => fitR f r (f (.gh t)) a ∧ fitG f r l
def fitCs (f : LF) (r : List (Nm × Nm)) (n : Nm) : Nat → List AV → Prop
  | _, [] => True
  | c, a :: as => fitC f r (f (.cell n c)) a ∧ fitCs f r n (c + 1) as
def fitH (f : LF) (r : List (Nm × Nm)) : List (Nm × HE) → Prop
  | [] => True
  | (n, .row fr k rows) :: hs => f (.live (renN r n)) = .lrow fr ∧ f (.row (renN r n)) = .rowc k rows ∧ fitH f r hs
  | (n, .box cells) :: hs => f (.live (renN r n)) = .lbox cells.length ∧ fitCs f r (renN r n) 0 cells ∧ fitH f r hs
/-! every name that a value of the loop's bears stands for something there -/
def nmC (ns : List Nm) : AV → Bool
  | .own n _ => Nm.mem n ns
  | .part n _ _ _ => Nm.mem n ns
  | .ptr n _ => Nm.mem n ns
  | .eptr n _ _ _ => Nm.mem n ns
  | _ => true
def nmL (ns : List Nm) : List AV → Bool
  | [] => true
  | a :: as => nmC ns a && nmL ns as
def nmT (ns : List Nm) : AV → Bool
  | .agg as => nmL ns as
  | a => nmC ns a
def nmTL (ns : List Nm) : List AV → Bool
  | [] => true
  | a :: as => nmT ns a && nmTL ns as
def nmR (ns : List Nm) : AV → Bool
  | .tup as => nmTL ns as
  | .fn _ as => nmTL ns as
  | a => nmT ns a
def nmV (ns : List Nm) : List (Nat × AV) → Bool
  | [] => true
  | (_, a) :: l => nmR ns a && nmV ns l
def nmH (ns : List Nm) : List (Nm × HE) → Bool
  | [] => true
  | (_, .row _ _ _) :: hs => nmH ns hs
  | (_, .box cells) :: hs => nmL ns cells && nmH ns hs
def namesH : List (Nm × HE) → List Nm
  | [] => []
  | (n, _) :: hs => n :: namesH hs
def renNs (r : List (Nm × Nm)) : List Nm → List Nm
  | [] => []
  | n :: ns => renN r n :: renNs r ns
def rowsLive (f : LF) : List Nm → Prop
  | [] => True
  | n :: ns => (match f (.live n) with | .lrow _ => True | _ => False) ∧ rowsLive f ns
/-- The state at hand is an instance of the loop's, with the rows 'fz' frozen first. -/
def Fits (r : List (Nm × Nm)) (fz : List Nm) (s : St) (l : LSt) : Prop :=
  rowsLive s.look fz ∧ (Nm.nodup (renNs r (namesH l.heap)) && (nmV (namesH l.heap) l.vars && (nmV (namesH l.heap) l.gh && nmH (namesH l.heap) l.heap))) = true ∧
    (s.setsK (frW fz) fun s => fitV s.look r l.vars ∧ fitG s.look r l.gh ∧ fitH s.look r l.heap)

section
variable {C : Cx} {P : Program} {E : Env} {Q : Exit → Act → World → Prop} {h : IH} {β : BM} {a : Act} {w : World}
def renB (β : BM) (r : List (Nm × Nm)) (ns : List Nm) : BM := fun n => if n ∈ ns then β (renN r n) else .none
section
variable {f : LF} {r : List (Nm × Nm)} {ns : List Nm}
theorem renC_sim {x : AV} {v : Value} (hn : nmC ns x = true) (hv : SimC h β (renC r x) v) : SimC h (renB β r ns) x v := by
  have key : ∀ {n}, Nm.mem n ns = true → renB β r ns n = β (renN r n) := fun hm => by rw [renB, if_pos (Nm.mem_iff.1 hm)]
  cases x <;> simp only [nmC, renC] at hn hv <;> first | exact hv | skip
  · obtain ⟨b, sz, len, cap, h1, q⟩ := hv; exact ⟨b, sz, len, cap, by rw [key hn, h1], q⟩
  · obtain ⟨b, sz, len, cap, off, h1, q⟩ := hv; exact ⟨b, sz, len, cap, off, by rw [key hn, h1], q⟩
  · obtain ⟨b, sz, h1, q⟩ := hv; exact ⟨b, sz, by rw [key hn, h1], q⟩
  · obtain ⟨b, sz, len, h1, q⟩ := hv; exact ⟨b, sz, len, by rw [key hn, h1], q⟩
theorem renL_sim : ∀ {xs : List AV} {vs : List Value}, nmL ns xs = true → SimL h β (renL r xs) vs → SimL h (renB β r ns) xs vs
  | [], [], _, _ => trivial
  | x :: xs, v :: vs, hn, hv => by
    simp only [nmL, Bool.and_eq_true] at hn
    exact ⟨renC_sim hn.1 hv.1, renL_sim hn.2 hv.2⟩
  | [], _ :: _, _, hv => hv.elim
  | _ :: _, [], _, hv => hv.elim
theorem renT_sim {x : AV} {v : Value} (hn : nmT ns x = true) (hv : SimT h β (renT r x) v) : SimT h (renB β r ns) x v := by
  cases x with
  | agg as => obtain ⟨vs, rfl, hv⟩ := hv; exact ⟨vs, rfl, renL_sim hn hv⟩
  | _ => simp only [nmT] at hn; exact renC_sim (h := h) (β := β) (v := v) (r := r) hn hv
theorem renTL_sim : ∀ {xs : List AV} {vs : List Value}, nmTL ns xs = true → SimTL h β (renTL r xs) vs → SimTL h (renB β r ns) xs vs
  | [], [], _, _ => trivial
  | x :: xs, v :: vs, hn, hv => by
    simp only [nmTL, Bool.and_eq_true] at hn
    exact ⟨renT_sim hn.1 hv.1, renTL_sim hn.2 hv.2⟩
  | [], _ :: _, _, hv => hv.elim
  | _ :: _, [], _, hv => hv.elim
theorem renR_sim {x : AV} {v : Value} (hn : nmR ns x = true) (hv : SimR h β (renR r x) v) : SimR h (renB β r ns) x v := by
  cases x with
  | tup as => obtain ⟨vs, rfl, hv⟩ := hv; exact ⟨vs, rfl, renTL_sim hn hv⟩
  | fn g as => obtain ⟨vs, rfl, hv⟩ := hv; exact ⟨vs, rfl, renTL_sim hn hv⟩
  | agg as => simp only [nmR] at hn; exact renT_sim (r := r) hn hv
  | _ => simp only [nmR, nmT] at hn; exact renC_sim (h := h) (β := β) (v := v) (r := r) hn hv
variable (hs : Sim C.G E f h β a w)
include hs
theorem frozen_own {n : Nm} {k0 k : Nat} {rows : Rows} {v : Value} (hl : f (.live n) = .lrow true) (hr : f (.row n) = .rowc k rows) (hv : SimC h β (.own n k0) v) : Rep h (.sl k rows) v := by
  have := (relC_of (f := f) hs (fun _ => rfl) (x := .own n k0) (y := .t (.sl k rows)) (ns := []) (zs := [n]) (by simpa using hl) (by simp) ⟨true, k, rows, hl, hr, .inr ⟨rfl, rfl, rfl⟩⟩ hv).1
  exact this.1
theorem frozen_part {n : Nm} {k0 k i m : Nat} {rows : Rows} {v : Value} (hl : f (.live n) = .lrow true) (hr : f (.row n) = .rowc k rows) (hv : SimC h β (.part n k0 i m) v) : Rep h (.sl k ((rows.drop i).take m)) v := by
  have := (relC_of (f := f) hs (fun _ => rfl) (x := .part n k0 i m) (y := .t (.sl k ((rows.drop i).take m))) (ns := []) (zs := [n]) (by simpa using hl) (by simp) ⟨true, k, rows, hl, hr, .inr ⟨rfl, rfl, rfl⟩⟩ hv).1
  exact this.1
theorem fitT_sim {src : AV} {x : TV} {v : Value} (hf : fitC f r src (.t x)) (hv : SimC h β src v) : Rep h x v := by
  simp only [fitC] at hf
  split at hf
  · subst hf; exact hv
  · split at hf <;> try exact hf.elim
    rename_i hl
    split at hf <;> try exact hf.elim
    rename_i hr
    subst hf
    exact frozen_own hs hl hr hv
  · split at hf <;> try exact hf.elim
    rename_i hl
    split at hf <;> try exact hf.elim
    rename_i hr
    subst hf
    exact frozen_part hs hl hr hv
  · exact hf.elim
theorem fitC_sim {src tgt : AV} {v : Value} (hf : fitC f r src tgt) (hn : nmC ns tgt = true) (hv : SimC h β src v) : SimC h (renB β r ns) tgt v := by
  cases tgt with
  | undef => trivial
  | t x => exact fitT_sim hs hf hv
  | _ =>
    have hf : src = _ := hf
    subst hf
    first | exact renC_sim (r := r) hn hv | exact hv.elim
theorem fitL_sim : ∀ {as bs : List AV} {vs : List Value}, fitL f r as bs → nmL ns bs = true → SimL h β as vs → SimL h (renB β r ns) bs vs
  | [], [], [], _, _, _ => trivial
  | x :: xs, y :: ys, v :: vs, hf, hn, hv => by
    simp only [nmL, Bool.and_eq_true] at hn
    exact ⟨fitC_sim hs hf.1 hn.1 hv.1, fitL_sim hf.2 hn.2 hv.2⟩
  | [], _ :: _, _, hf, _, _ => hf.elim
  | _ :: _, [], _, hf, _, _ => hf.elim
  | [], [], _ :: _, _, _, hv => hv.elim
  | _ :: _, _ :: _, [], _, _, hv => hv.elim
theorem fitR_sim {src tgt : AV} {v : Value} (hf : fitR f r src tgt) (hn : nmR ns tgt = true) (hv : SimR h β src v) : SimR h (renB β r ns) tgt v := by
  cases tgt with
  | undef => trivial
  | agg bs =>
    simp only [fitR] at hf
    split at hf <;> try exact hf.elim
    obtain ⟨vs, rfl, hv⟩ := hv
    exact ⟨vs, rfl, fitL_sim hs hf hn hv⟩
  | t x =>
    have hv' : SimC h β src v := by
      cases src <;> first | exact hv | (simp [fitR, fitC] at hf; done)
    exact fitT_sim (r := r) hs hf hv'
  | _ =>
    have hf : src = _ := hf
    subst hf
    exact renR_sim (r := r) hn hv
end
/-! ## What the loop's state says -/
def hfind (n : Nm) : List (Nm × HE) → Option HE
  | [] => none
  | (m, e) :: hs => if m = n then some e else hfind n hs
theorem hfind_mem {n : Nm} : ∀ {hs : List (Nm × HE)} {e : HE}, hfind n hs = some e → n ∈ namesH hs
  | (m, e') :: hs, e, hf => by
    simp only [hfind] at hf
    split at hf
    · rename_i q; simp [namesH, q]
    · simp [namesH, hfind_mem hf]
theorem hfind_some {n : Nm} : ∀ {hs : List (Nm × HE)}, n ∈ namesH hs → ∃ e, hfind n hs = some e
  | (m, e') :: hs, hm => by
    simp only [hfind]
    by_cases q : m = n
    · exact ⟨e', by rw [if_pos q]⟩
    · rw [if_neg q]
      simp only [namesH, List.mem_cons] at hm
      exact hfind_some (hm.resolve_left (fun r => q r.symm))
theorem lookP_skip {p : Pl} : ∀ {xs ys : List (Pl × AV)}, (∀ x ∈ xs, x.1 ≠ p) → lookP p (xs ++ ys) = lookP p ys
  | [], _, _ => rfl
  | (q, y) :: xs, ys, hx => by
    have hne : Pl.beq q p = false := by rw [← Bool.not_eq_true, Pl.beq_iff]; exact hx (q, y) List.mem_cons_self
    simp only [List.cons_append, lookP, hne, cond_false]
    exact lookP_skip (fun x hm => hx x (List.mem_cons_of_mem _ hm))
theorem ws_names {m : Nm} {e : HE} {x : Pl × AV} (hx : x ∈ e.ws m) : x.1 = .live m ∨ x.1 = .row m ∨ ∃ c, x.1 = .cell m c := by
  cases e with
  | row fr k rows => simp [HE.ws] at hx; rcases hx with rfl | rfl <;> simp
  | box cells =>
    simp only [HE.ws, List.mem_cons] at hx
    rcases hx with rfl | hx
    · simp
    · have : ∀ (xs : List AV) (c : Nat), x ∈ cellsW m c xs → ∃ c, x.1 = .cell m c := by
        intro xs
        induction xs with
        | nil => intro c hc; simp [cellsW] at hc
        | cons y ys ih => intro c hc; simp only [cellsW, List.mem_cons] at hc; rcases hc with q | q; exact ⟨c, by rw [q]⟩; exact ih _ q
      exact .inr (.inr (this _ _ hx))
theorem look_live {n : Nm} {gs : List (Nat × AV)} : ∀ {hs : List (Nm × HE)}, lookP (.live n) (heapOf gs hs) = match hfind n hs with | none => .undef | some (.row fr _ _) => .lrow fr | some (.box cells) => .lbox cells.length
  | [] => by
    simp only [hfind]
    induction gs with
    | nil => rfl
    | cons g gs ih => obtain ⟨j, a⟩ := g; simp only [heapOf, ghOf, lookP, Pl.beq, cond_false] at ih ⊢; exact ih
  | (m, e) :: hs => by
    simp only [heapOf, hfind]
    by_cases q : m = n
    · subst q
      rw [if_pos rfl]
      cases e <;> simp [HE.ws, lookP, Pl.beq_iff.2 rfl]
    · rw [if_neg q, lookP_skip (fun x hx e => ?_), look_live]
      rcases ws_names hx with r | r | ⟨c, r⟩ <;> rw [r] at e <;> simp at e
      exact q e
theorem look_row {n : Nm} {gs : List (Nat × AV)} {fr : Bool} {k : Nat} {rows : Rows} : ∀ {hs : List (Nm × HE)}, hfind n hs = some (.row fr k rows) → lookP (.row n) (heapOf gs hs) = .rowc k rows
  | (m, e) :: hs, hf => by
    simp only [hfind] at hf
    simp only [heapOf]
    by_cases q : m = n
    · subst q
      rw [if_pos rfl] at hf
      simp at hf; subst hf
      simp [HE.ws, lookP, Pl.beq]
      rw [Nm.beq_iff.2 rfl]; rfl
    · rw [if_neg q] at hf
      rw [lookP_skip (fun x hx e => ?_), look_row hf]
      rcases ws_names hx with r | r | ⟨c, r⟩ <;> rw [r] at e <;> simp at e
      exact q e
theorem look_cellsW {n : Nm} {ys : List (Pl × AV)} : ∀ {cells : List AV} {c0 c : Nat} {x : AV}, cells[c]? = some x → lookP (.cell n (c0 + c)) (cellsW n c0 cells ++ ys) = x
  | [], _, c, x, hx => by simp at hx
  | a :: as, c0, c, x, hx => by
    simp only [cellsW, List.cons_append, lookP]
    cases c with
    | zero => simp at hx; subst hx; rw [Pl.beq_iff.2 (by rw [Nat.add_zero]), cond_true]
    | succ c =>
      have : Pl.beq (.cell n c0) (.cell n (c0 + (c + 1))) = false := by rw [← Bool.not_eq_true, Pl.beq_iff]; simp
      rw [this, cond_false]
      have := look_cellsW (n := n) (ys := ys) (c0 := c0 + 1) (c := c) (x := x) (by simpa using hx)
      rwa [show c0 + 1 + c = c0 + (c + 1) from by omega] at this
theorem look_cell {n : Nm} {gs : List (Nat × AV)} {cells : List AV} {c : Nat} {x : AV} (hx : cells[c]? = some x) : ∀ {hs : List (Nm × HE)}, hfind n hs = some (.box cells) → lookP (.cell n c) (heapOf gs hs) = x
  | (m, e) :: hs, hf => by
    simp only [hfind] at hf
    simp only [heapOf]
    by_cases q : m = n
    · subst q
      rw [if_pos rfl] at hf
      simp at hf; subst hf
      simp only [HE.ws, List.cons_append, lookP]
      have : Pl.beq (.live m) (.cell m c) = false := rfl
      rw [this, cond_false]
      have := look_cellsW (n := m) (ys := heapOf gs hs) (c0 := 0) hx
      rwa [Nat.zero_add] at this
    · rw [if_neg q] at hf
      rw [lookP_skip (fun x hx e => ?_), look_cell hx hf]
      rcases ws_names hx with r | r | ⟨c, r⟩ <;> rw [r] at e <;> simp at e
      exact q e.1
theorem look_gh {j : Nat} {gs : List (Nat × AV)} : ∀ {hs : List (Nm × HE)}, lookP (.gh j) (heapOf gs hs) = match lookN j gs with | some a => a | none => .undef
  | [] => by
    induction gs with
    | nil => rfl
    | cons g gs ih =>
      obtain ⟨i, a⟩ := g
      simp only [heapOf, ghOf, lookP, Pl.beq, lookN] at ih ⊢
      cases Nat.beq i j
      · simpa using ih
      · rfl
  | (m, e) :: hs => by
    simp only [heapOf]
    rw [lookP_skip (fun x hx e => ?_), look_gh]
    rcases ws_names hx with r | r | ⟨c, r⟩ <;> rw [r] at e <;> cases e
theorem fitV_at {f : LF} {r : List (Nm × Nm)} {ns : List Nm} {t : Nat} : ∀ {l : List (Nat × AV)} {x : AV}, fitV f r l → nmV ns l = true → lookN t l = some x → fitR f r (f (.tmp t)) x ∧ nmR ns x = true
  | (u, y) :: l, x, hf, hn, hl => by
    simp only [nmV, Bool.and_eq_true] at hn
    simp only [lookN] at hl
    by_cases e : u = t
    · subst e; simp at hl; subst hl; exact ⟨hf.1, hn.1⟩
    · rw [natbeq_false e, cond_false] at hl; exact fitV_at hf.2 hn.2 hl
theorem fitG_at {f : LF} {r : List (Nm × Nm)} {ns : List Nm} {t : Nat} : ∀ {l : List (Nat × AV)} {x : AV}, fitG f r l → nmV ns l = true → lookN t l = some x → fitR f r (f (.gh t)) x ∧ nmR ns x = true
  | (u, y) :: l, x, hf, hn, hl => by
    simp only [nmV, Bool.and_eq_true] at hn
    simp only [lookN] at hl
    by_cases e : u = t
    · subst e; simp at hl; subst hl; exact ⟨hf.1, hn.1⟩
    · rw [natbeq_false e, cond_false] at hl; exact fitG_at hf.2 hn.2 hl
theorem fitH_at {f : LF} {r : List (Nm × Nm)} {ns : List Nm} {n : Nm} : ∀ {hs : List (Nm × HE)} {e : HE}, fitH f r hs → nmH ns hs = true → hfind n hs = some e →
    match e with
    | .row fr k rows => f (.live (renN r n)) = .lrow fr ∧ f (.row (renN r n)) = .rowc k rows
    | .box cells => f (.live (renN r n)) = .lbox cells.length ∧ fitCs f r (renN r n) 0 cells ∧ nmL ns cells = true
  | (m, .row fr k rows) :: hs, e, hf, hn, hl => by
    simp only [hfind] at hl
    split at hl
    · rename_i q; subst q; simp at hl; subst hl; exact ⟨hf.1, hf.2.1⟩
    · exact fitH_at hf.2.2 (by simpa [nmH] using hn) hl
  | (m, .box cells) :: hs, e, hf, hn, hl => by
    simp only [nmH, Bool.and_eq_true] at hn
    simp only [hfind] at hl
    split at hl
    · rename_i q; subst q; simp at hl; subst hl; exact ⟨hf.1, hf.2.1, hn.1⟩
    · exact fitH_at hf.2.2 hn.2 hl
theorem fitCs_at {f : LF} {r : List (Nm × Nm)} {n : Nm} : ∀ {xs : List AV} {c0 c : Nat} {x : AV}, fitCs f r n c0 xs → xs[c]? = some x → fitC f r (f (.cell n (c0 + c))) x
  | y :: ys, c0, 0, x, hf, hx => by simp at hx; subst hx; exact hf.1
  | y :: ys, c0, c + 1, x, hf, hx => by
    have := fitCs_at hf.2 (c := c) (x := x) (by simpa using hx)
    rwa [show c0 + 1 + c = c0 + (c + 1) from by omega] at this
  | [], _, _, _, _, hx => by simp at hx
theorem nmL_at {ns : List Nm} : ∀ {xs : List AV} {c : Nat} {x : AV}, nmL ns xs = true → xs[c]? = some x → nmC ns x = true
  | y :: ys, 0, x, hn, hx => by simp only [nmL, Bool.and_eq_true] at hn; simp at hx; subst hx; exact hn.1
  | y :: ys, c + 1, x, hn, hx => by simp only [nmL, Bool.and_eq_true] at hn; exact nmL_at hn.2 (by simpa using hx)
  | [], _, _, _, hx => by simp at hx
theorem renNs_inj {r : List (Nm × Nm)} : ∀ {ns : List Nm}, (renNs r ns).Nodup → ∀ {n m : Nm}, n ∈ ns → m ∈ ns → renN r n = renN r m → n = m
  | [], _, _, _, hn, _, _ => by simp at hn
  | x :: ns, hd, n, m, hn, hm, e => by
    obtain ⟨h1, h2⟩ := List.nodup_cons.1 hd
    have mem : ∀ {y}, y ∈ ns → renN r y ∈ renNs r ns := by
      intro y
      clear h1 h2 hd hn hm
      induction ns with
      | nil => intro hy; simp at hy
      | cons z zs ih => intro hy; simp only [renNs, List.mem_cons] at hy ⊢; exact hy.imp (fun q => by rw [q]) ih
    rcases List.mem_cons.1 hn with q | q <;> rcases List.mem_cons.1 hm with p | p
    · rw [q, p]
    · exact absurd (by rw [← q, e]; exact mem p) h1
    · exact absurd (by rw [← p, ← e]; exact mem q) h1
    · exact renNs_inj h2 q p e
theorem fitC_def {f : LF} {r : List (Nm × Nm)} {src tgt : AV} (hf : fitC f r src tgt) (hd : isDef tgt = true) : isDef src = true := by
  cases tgt <;> simp only [fitC] at hf
  case undef => cases hd
  case skip => cases hd
  case t x => cases src <;> first | rfl | exact hf.elim
  all_goals (subst hf; rfl)
theorem Sim.fit {f : LF} {r : List (Nm × Nm)} {l : LSt} (hs : Sim C.G E f h β a w) (h2 : (renNs r (namesH l.heap)).Nodup) (h3 : nmV (namesH l.heap) l.vars = true) (h4 : nmV (namesH l.heap) l.gh = true) (h5 : nmH (namesH l.heap) l.heap = true) (g1 : fitV f r l.vars) (g2 : fitG f r l.gh) (g3 : fitH f r l.heap) :
    Sim C.G E l.st.look h (renB β r (namesH l.heap)) a w := by
  have htmp : ∀ t, l.st.look (.tmp t) = match lookN t l.vars with | some x => x | none => .undef := fun t => rfl
  have hgh : ∀ t, l.st.look (.gh t) = match lookN t l.gh with | some x => x | none => .undef := fun t => look_gh
  have hlive : ∀ n, l.st.look (.live n) = match hfind n l.heap with | none => .undef | some (.row fr _ _) => .lrow fr | some (.box cells) => .lbox cells.length := fun n => look_live
  have hren : ∀ n, n ∈ namesH l.heap → renB β r (namesH l.heap) n = β (renN r n) := fun n hn => by rw [renB, if_pos hn]
  have hown : ∀ n b, OwnB l.st.look (renB β r (namesH l.heap)) n b → n ∈ namesH l.heap ∧ OwnB f β (renN r n) b := by
    intro n b ho
    rcases ho with ⟨q, sz, k, len, e⟩ | ⟨s, q, sz, e⟩
    · rw [hlive] at q
      split at q <;> try (cases q; done)
      rename_i fr k' rows hf
      simp only [AV.lrow.injEq] at q; subst q
      have hm := hfind_mem hf
      rw [hren n hm] at e
      exact ⟨hm, .inl ⟨(fitH_at g3 h5 hf).1, sz, k, len, e⟩⟩
    · rw [hlive] at q
      split at q <;> try (cases q; done)
      rename_i cells hf
      simp only [AV.lbox.injEq] at q; subst q
      have hm := hfind_mem hf
      rw [hren n hm] at e
      exact ⟨hm, .inr ⟨_, (fitH_at g3 h5 hf).1, sz, e⟩⟩
  refine { glob := hs.glob, on := hs.on, fr := hs.fr, le0 := hs.le0, fresh := hs.fresh, old := hs.old, size := hs.size, defers := hs.defers, tmps := fun t => ?_, ghost := fun t => ?_, free := fun n hn => ?_, rows := fun n fr hn => ?_, boxes := fun n sz hn => ?_, inj := fun n n' b o1 o2 => ?_, own := fun n b ho => hs.own _ b (hown n b ho).2 }
  · rw [htmp]
    split
    · rename_i x hx
      obtain ⟨q1, q2⟩ := fitV_at g1 h3 hx
      exact fitR_sim hs q1 q2 (hs.tmps t)
    · trivial
  · rw [hgh]
    split
    · rename_i x hx
      obtain ⟨q1, q2⟩ := fitG_at g2 h4 hx
      exact fitR_sim hs q1 q2 (hs.ghost t)
    · trivial
  · rw [hlive] at hn
    split at hn
    · rename_i hf
      rw [renB, if_neg (fun q => by obtain ⟨e, he⟩ := hfind_some q; rw [hf] at he; cases he)]
    · cases hn
    · cases hn
  · rw [hlive] at hn
    split at hn <;> try (cases hn; done)
    rename_i fr' k rows hf
    simp only [AV.lrow.injEq] at hn; subst hn
    obtain ⟨q1, q2⟩ := fitH_at g3 h5 hf
    obtain ⟨b, sz, k', rows', e1, e2, e3⟩ := hs.rows _ _ q1
    rw [q2] at e2; simp only [AV.rowc.injEq] at e2; obtain ⟨rfl, rfl⟩ := e2
    exact ⟨b, sz, k, rows, by rw [hren n (hfind_mem hf), e1], look_row hf, e3⟩
  · rw [hlive] at hn
    split at hn <;> try (cases hn; done)
    rename_i cells hf
    simp only [AV.lbox.injEq] at hn; subst hn
    obtain ⟨q1, q2, q3⟩ := fitH_at g3 h5 hf
    obtain ⟨b, e1, cs, T, e2, e3, e4, e5⟩ := hs.boxes _ _ q1
    refine ⟨b, by rw [hren n (hfind_mem hf), e1], cs, T, e2, e3, e4, fun c hc hd => ?_⟩
    have hx : cells[c]? = some cells[c] := by simp [hc]
    have hlook : l.st.look (.cell n c) = cells[c] := look_cell hx hf
    rw [hlook] at hd ⊢
    have hfit := fitCs_at q2 hx
    rw [Nat.zero_add] at hfit
    obtain ⟨v, v1, v2⟩ := e5 c hc (fitC_def hfit hd)
    exact ⟨v, v1, fitC_sim hs hfit (nmL_at q3 hx) v2⟩
  · obtain ⟨m1, p1⟩ := hown n b o1
    obtain ⟨m2, p2⟩ := hown n' b o2
    exact renNs_inj h2 m1 m2 (hs.inj _ _ b p1 p2)
theorem rowsLive_at {f : LF} : ∀ {ns : List Nm}, rowsLive f ns → ∀ n ∈ ns, ∃ fr, f (.live n) = .lrow fr
  | [], _, n, hn => by simp at hn
  | m :: ns, hr, n, hn => by
    rcases List.mem_cons.1 hn with e | e
    · subst e
      have := hr.1
      split at this
      · rename_i fr hf; exact ⟨fr, hf⟩
      · exact this.elim
    · exact rowsLive_at hr.2 n e
theorem Fits.sim {r : List (Nm × Nm)} {fz : List Nm} {s : St} {l : LSt} (hf : Fits r fz s l) (hs : Sim C.G E s.look h β a w) : ∃ h' β', Sim C.G E l.st.look h' β' a w := by
  obtain ⟨h1, h2, h3⟩ := hf
  rw [St.setsK_eq] at h3
  simp only [look_sets] at h3
  simp only [Bool.and_eq_true] at h2
  obtain ⟨h', _, s1⟩ := hs.freezes (rowsLive_at h1)
  exact ⟨h', _, s1.fit (Nm.nodup_iff.1 h2.1) h2.2.1 h2.2.2.1 h2.2.2.2 h3.1 h3.2.1 h3.2.2⟩
theorem Rd.wp_mono : ∀ {r : Rd} {s : St} {R : List Pl} {K K' : List Pl → Ws → Prop}, r.wp s R K → (∀ R ws, K R ws → K' R ws) → r.wp s R K'
  | .done ws, s, R, K, K', h, hk => by simp only [Rd.wp, forceW_eq] at h ⊢; exact hk _ _ h
  | .get p k, s, R, K, K', h, hk => by simp only [Rd.wp, Pl.force_eq, AV.force_eq] at h ⊢; exact Rd.wp_mono h hk
  | .need c k, s, R, K, K', h, hk => ⟨h.1, Rd.wp_mono h.2 hk⟩
  | .br b t e, s, R, K, K', h, hk => by
    cases b
    · exact Rd.wp_mono (r := e) h hk
    · exact Rd.wp_mono (r := t) h hk
  | .elem rows i k, s, R, K, K', h, hk => let ⟨r, h1, h2⟩ := h; ⟨r, h1, Rd.wp_mono h2 hk⟩
  | .ex P k, s, R, K, K', h, hk => let ⟨r, o, h1, h2⟩ := h; ⟨r, o, h1, Rd.wp_mono h2 hk⟩
theorem guardCase_mono {ops : List Oper} {o : Oper} {s : St} {k k' : St → Prop} (hg : guardCase ops o s k) (hk : ∀ s, k s → k' s) : guardCase ops o s k' := by
  unfold guardCase at *
  split at hg
  · exact hk _ hg
  · split at hg
    · split at hg
      · rename_i b _
        cases b
        · simp only [Br, St.setK_eq] at hg ⊢; exact hk _ hg
        · simp only [Br, St.setK_eq] at hg ⊢; exact hk _ hg
      · exact hk _ hg
    · exact hk _ hg
theorem vops_mono {N : Nat} {ops : List Oper} {K K' : St → List Log → Prop} (hk : ∀ s lg, K s lg → K' s lg) : ∀ {l : List Oper} {s : St} {lg : List Log}, vops C N ops l s lg K → vops C N ops l s lg K'
  | [], _, _, h => hk _ _ h
  | o :: rest, s, lg, h => by
    refine guardCase_mono h (fun s1 h => ?_)
    refine Rd.wp_mono h (fun R ws h => ?_)
    rw [St.setsK_eq] at h ⊢
    exact vops_mono hk h
theorem vc_mono {N : Nat} {Lp Lp' : Code → St → (XExit → St → Prop) → Prop} (hL : ∀ c s K K', (∀ e s, K e s → K' e s) → Lp c s K → Lp' c s K') : ∀ {c : Code} {s : St} {K K' : XExit → St → Prop}, vc C N Lp c s K → (∀ e s, K e s → K' e s) → vc C N Lp' c s K'
  | .skip, s, K, K', h, hk => hk _ _ h
  | .ret, s, K, K', h, hk => hk _ _ h
  | .exit id, s, K, K', h, hk => hk _ _ h
  | .seq x y, s, K, K', h, hk => vc_mono hL (c := x) h (fun e s' h => by
      cases e with
      | normal => exact vc_mono hL (c := y) h hk
      | exit i => exact hk _ _ h
      | ret => exact hk _ _ h)
  | .cond c x y, s, K, K', h, hk => by
    simp only [vc] at h ⊢
    split at h
    · split at h
      · rename_i b _
        cases b
        · exact vc_mono hL (c := y) h hk
        · exact vc_mono hL (c := x) h hk
      · exact h.elim
    · rename_i b
      cases b
      · exact vc_mono hL (c := y) h hk
      · exact vc_mono hL (c := x) h hk
    · exact h.elim
  | .block id x, s, K, K', h, hk => vc_mono hL (c := x) h (fun e s' h => by
      cases e with
      | normal => exact hk _ _ h
      | exit i =>
        simp only at h ⊢
        cases hq : Nat.beq i id <;> rw [hq] at h
        · exact hk _ _ h
        · exact hk _ _ h
      | ret => exact hk _ _ h)
  | .region id ops d, s, K, K', h, hk => by
    simp only [vc] at h ⊢
    unfold vregion at *
    refine vops_mono (fun s lg h => ?_) h
    obtain ⟨v, t, hp⟩ := s
    cases d with
    | false => exact hk _ _ h
    | true => exact ⟨h.1, hk _ _ h.2⟩
  | .loop c, s, K, K', h, hk => hL _ _ _ _ hk h
  | .label _, s, K, K', h, hk => h.elim
  | .goto _, s, K, K', h, hk => h.elim
  | .refuse _, s, K, K', h, hk => h.elim
  | .scope _, s, K, K', h, hk => h.elim
  | .rangeFunc _ _ _ _, s, K, K', h, hk => h.elim
/-! ## What is promised of something is promised of one thing: no step has a choice -/
theorem wp_ex {X : Type} : ∀ {r : Rd} {s : St} {R : List Pl} {Φ : X → List Pl → Ws → Prop}, r.wp s R (fun R ws => ∃ x, Φ x R ws) → ∃ x, r.wp s R (Φ x)
  | .done ws, s, R, Φ, h => by simp only [Rd.wp, forceW_eq] at h ⊢; exact h
  | .get p k, s, R, Φ, h => by simp only [Rd.wp, Pl.force_eq, AV.force_eq] at h ⊢; exact wp_ex h
  | .need c k, s, R, Φ, h => let ⟨x, hx⟩ := wp_ex h.2; ⟨x, h.1, hx⟩
  | .br b t e, s, R, Φ, h => by
    cases b
    · exact wp_ex (r := e) h
    · exact wp_ex (r := t) h
  | .elem rows i k, s, R, Φ, h => let ⟨r, h1, h2⟩ := h; let ⟨x, hx⟩ := wp_ex h2; ⟨x, r, h1, hx⟩
  | .ex P k, s, R, Φ, h => let ⟨r, o, h1, h2⟩ := h; let ⟨x, hx⟩ := wp_ex h2; ⟨x, r, o, h1, hx⟩
theorem guardCase_ex {X : Type} {ops : List Oper} {o : Oper} {s : St} {Φ : X → St → Prop} (hg : guardCase ops o s (fun s => ∃ x, Φ x s)) : ∃ x, guardCase ops o s (Φ x) := by
  unfold guardCase at *
  split at hg
  · exact hg
  · split at hg
    · split at hg
      · rename_i b _
        cases b
        · simp only [Br, St.setK_eq] at hg ⊢; exact hg
        · simp only [Br, St.setK_eq] at hg ⊢; exact hg
      · exact hg
    · exact hg
theorem vops_ex {X : Type} {N : Nat} {ops : List Oper} {Φ : X → St → List Log → Prop} : ∀ {l : List Oper} {s : St} {lg : List Log}, vops C N ops l s lg (fun s lg => ∃ x, Φ x s lg) → ∃ x, vops C N ops l s lg (Φ x)
  | [], _, _, h => h
  | o :: rest, s, lg, h => by
    have h1 : guardCase ops o s fun s => ∃ x, (stepRd C N ops o).wp s [] fun R ws => s.setsK ws fun s => vops C N ops rest s (⟨R, ws⟩ :: lg) (Φ x) := by
      refine guardCase_mono h (fun s1 h => ?_)
      refine wp_ex (Rd.wp_mono h (fun R ws h => ?_))
      simp only [St.setsK_eq] at h ⊢
      exact vops_ex h
    exact guardCase_ex h1
theorem vc_ex {X : Type} {N : Nat} {Lp : Code → St → (XExit → St → Prop) → Prop} (hL : ∀ c s (Φ : X → XExit → St → Prop), Lp c s (fun e s => ∃ x, Φ x e s) → ∃ x, Lp c s (Φ x)) (hM : ∀ c s K K', (∀ e s, K e s → K' e s) → Lp c s K → Lp c s K') : ∀ {c : Code} {s : St} {Φ : X → XExit → St → Prop}, vc C N Lp c s (fun e s => ∃ x, Φ x e s) → ∃ x, vc C N Lp c s (Φ x)
  | .skip, s, Φ, h => h
  | .ret, s, Φ, h => h
  | .exit id, s, Φ, h => h
  | .seq x y, s, Φ, h => vc_ex hL hM (c := x) (vc_mono hM (c := x) h (fun e s' h => by
      cases e with
      | normal => exact vc_ex hL hM (c := y) h
      | exit i => exact h
      | ret => exact h))
  | .cond c x y, s, Φ, h => by
    simp only [vc] at h ⊢
    split at h
    · rename_i hq
      split at h
      · rename_i b _
        cases b
        · exact vc_ex hL hM (c := y) h
        · exact vc_ex hL hM (c := x) h
      · exact h.elim
    · rename_i b
      cases b
      · exact vc_ex hL hM (c := y) h
      · exact vc_ex hL hM (c := x) h
    · exact h.elim
  | .block id x, s, Φ, h => vc_ex hL hM (c := x) (vc_mono hM (c := x) h (fun e s' h => by
      cases e with
      | normal => exact h
      | exit i =>
        simp only at h ⊢
        cases hq : Nat.beq i id <;> rw [hq] at h
        · exact h
        · exact h
      | ret => exact h))
  | .region id ops d, s, Φ, h => by
    simp only [vc] at h ⊢
    unfold vregion at *
    refine vops_ex (vops_mono (fun s lg h => ?_) h)
    obtain ⟨v, t, hp⟩ := s
    cases d with
    | false => exact h
    | true => obtain ⟨h1, x, h2⟩ := h; exact ⟨x, h1, h2⟩
  | .loop c, s, Φ, h => hL _ _ _ h
  | .label _, s, Φ, h => h.elim
  | .goto _, s, Φ, h => h.elim
  | .refuse _, s, Φ, h => h.elim
  | .scope _, s, Φ, h => h.elim
  | .rangeFunc _ _ _ _, s, Φ, h => h.elim
/-! ## Loops -/
def LpN (C : Cx) (N : Nat) : Nat → Code → St → (XExit → St → Prop) → Prop
  | 0, _, _, _ => False
  | n + 1, c, s, K => ∃ l r fz, Fits r fz s l ∧ vc C N (LpN C N n) c l.st fun e s' => match e with | .normal => LpN C N n c s' K | e => K e s'
def Lpx (C : Cx) (N : Nat) : Code → St → (XExit → St → Prop) → Prop := fun c s K => ∃ n, LpN C N n c s K
theorem LpN_mono {N : Nat} : ∀ (n : Nat) c s (K K' : XExit → St → Prop), (∀ e s, K e s → K' e s) → LpN C N n c s K → LpN C N n c s K'
  | 0, _, _, _, _, _, h => h.elim
  | n + 1, c, s, K, K', hk, h => by
    obtain ⟨l, r, fz, h1, h2⟩ := h
    refine ⟨l, r, fz, h1, vc_mono (LpN_mono n) h2 (fun e s' h => ?_)⟩
    cases e with
    | normal => exact LpN_mono n _ _ _ _ hk h
    | exit i => exact hk _ _ h
    | ret => exact hk _ _ h
theorem LpN_more {N : Nat} : ∀ (n : Nat) c s (K K' : XExit → St → Prop), (∀ e s, K e s → K' e s) → LpN C N n c s K → LpN C N (n + 1) c s K'
  | 0, _, _, _, _, _, h => h.elim
  | n + 1, c, s, K, K', hk, h => by
    obtain ⟨l, r, fz, h1, h2⟩ := h
    refine ⟨l, r, fz, h1, vc_mono (LpN_more n) h2 (fun e s' h => ?_)⟩
    cases e with
    | normal => exact LpN_more n _ _ _ _ hk h
    | exit i => exact hk _ _ h
    | ret => exact hk _ _ h
theorem LpN_le {N n m : Nat} (hnm : n ≤ m) : ∀ c s (K K' : XExit → St → Prop), (∀ e s, K e s → K' e s) → LpN C N n c s K → LpN C N m c s K' := by
  induction hnm with
  | refl => exact LpN_mono n
  | step _ ih => intro c s K K' hk h; exact LpN_more _ _ _ _ _ (fun _ _ => id) (ih c s K K' hk h)
theorem LpN_ex {X : Type} {N : Nat} : ∀ (n : Nat) c s (Φ : X → XExit → St → Prop), LpN C N n c s (fun e s => ∃ x, Φ x e s) → ∃ x, LpN C N n c s (Φ x)
  | 0, _, _, _, h => h.elim
  | n + 1, c, s, Φ, h => by
    obtain ⟨l, r, fz, h1, h2⟩ := h
    obtain ⟨x, hx⟩ := vc_ex (Φ := fun x e s' => match e with | .normal => LpN C N n c s' (Φ x) | e => Φ x e s') (LpN_ex n) (LpN_mono n) (vc_mono (LpN_mono n) h2 (fun e s' h => by
      cases e with
      | normal => exact LpN_ex n _ _ _ h
      | exit i => exact h
      | ret => exact h))
    exact ⟨x, l, r, fz, h1, hx⟩
/-- of loops within, the rounds are counted together -/
theorem vc_fuel {N : Nat} : ∀ {c : Code} {s : St} {K : XExit → St → Prop}, vc C N (Lpx C N) c s K → ∃ n, vc C N (LpN C N n) c s K
  | .skip, s, K, h => ⟨0, h⟩
  | .ret, s, K, h => ⟨0, h⟩
  | .exit id, s, K, h => ⟨0, h⟩
  | .seq x y, s, K, h => by
    have hM : ∀ c s (K K' : XExit → St → Prop), (∀ e s, K e s → K' e s) → Lpx C N c s K → Lpx C N c s K' := fun c s K K' hk ⟨n, h⟩ => ⟨n, LpN_mono n _ _ _ _ hk h⟩
    obtain ⟨n, h1⟩ := vc_fuel (c := x) (vc_mono (K' := fun e s' => ∃ m, match e with | .normal => vc C N (LpN C N m) y s' K | .exit i => K (.exit i) s' | .ret => K .ret s') hM (c := x) h (fun e s' h => by
      cases e with
      | normal => exact vc_fuel (c := y) h
      | exit i => exact ⟨0, h⟩
      | ret => exact ⟨0, h⟩))
    obtain ⟨m, h2⟩ := vc_ex (LpN_ex n) (LpN_mono n) h1
    refine ⟨max n m, vc_mono (c := x) (LpN_le (Nat.le_max_left n m)) h2 (fun e s' h => ?_)⟩
    cases e with
    | normal => exact vc_mono (c := y) (LpN_le (Nat.le_max_right n m)) h (fun _ _ => id)
    | exit i => exact h
    | ret => exact h
  | .cond c x y, s, K, h => by
    simp only [vc] at h ⊢
    split at h
    · split at h
      · rename_i b _
        cases b
        · exact vc_fuel (c := y) h
        · exact vc_fuel (c := x) h
      · exact h.elim
    · rename_i b
      cases b
      · exact vc_fuel (c := y) h
      · exact vc_fuel (c := x) h
    · exact h.elim
  | .block id x, s, K, h => vc_fuel (c := x) h
  | .region id ops d, s, K, h => ⟨0, h⟩
  | .loop c, s, K, h => h
  | .label _, s, K, h => h.elim
  | .goto _, s, K, h => h.elim
  | .refuse _, s, K, h => h.elim
  | .scope _, s, K, h => h.elim
  | .rangeFunc _ _ _ _, s, K, h => h.elim
theorem LpN_sound (hT : TyOK P C.Γ) (hA : ∀ g ys r outs, C.ac g ys r outs → AC P C.G g ys r outs) {N : Nat} : ∀ (n : Nat) c s K, LpN C N n c s K → LpOf P C N c s K := by
  intro n
  induction n using Nat.strongRecOn with
  | _ n sound =>
    intro c s K hn E hE Q h β a w hs hQ
    subst hE
    have key : ∀ (m : Nat), m ≤ n → ∀ s h β a w, LpN C E.N m c s K → Sim C.G E s.look h β a w → Code.rounds P c Q m a w := by
      intro m
      induction m with
      | zero => intro _ s h β a w hl _; exact hl.elim
      | succ m ih =>
        intro hm s h β a w hl hs
        obtain ⟨l, r, fz, h1, h2⟩ := hl
        obtain ⟨h', β', s1⟩ := h1.sim hs
        rw [rounds_succ]
        refine vc_ok hT hA (sound m (by omega)) h2 s1 (fun e s' hK h2 β2 a' w' hs' => ?_)
        cases e with
        | normal => exact ih (by omega) s' h2 β2 a' w' hK hs'
        | exit k => exact hQ _ _ hK _ _ _ _ hs'
        | ret => exact hQ _ _ hK _ _ _ _ hs'
    exact wp_loop_rounds n (key n (Nat.le_refl n) s h β a w hn hs)
theorem Lpx_sound (hT : TyOK P C.Γ) (hA : ∀ g ys r outs, C.ac g ys r outs → AC P C.G g ys r outs) {N : Nat} : ∀ c s K, Lpx C N c s K → LpOf P C N c s K := fun c s K ⟨n, h⟩ => LpN_sound hT hA n c s K h
/-- A loop: a family of states, each with a measure. -/
theorem loop_rule {N : Nat} {ι : Type} (I : ι → Prop) (S : ι → LSt) (μ : ι → Nat) {c : Code} {s : St} {K : XExit → St → Prop} (h0 : ∃ i r fz, I i ∧ Fits r fz s (S i))
    (hb : ∀ i, I i → (S i).go fun s => vc C N (Lpx C N) c s fun e s' => match e with | .normal => ∃ j r fz, I j ∧ μ j < μ i ∧ Fits r fz s' (S j) | e => K e s') : Lpx C N c s K := by
  have key : ∀ n i, μ i = n → I i → ∀ s r fz, Fits r fz s (S i) → ∃ m, LpN C N m c s K := by
    intro n
    induction n using Nat.strongRecOn with
    | _ n ih =>
      intro i hi hI s r fz hf
      have hv := hb i hI
      rw [LSt.go_eq] at hv
      have hM : ∀ c s (K K' : XExit → St → Prop), (∀ e s, K e s → K' e s) → Lpx C N c s K → Lpx C N c s K' := fun c s K K' hk ⟨n, h⟩ => ⟨n, LpN_mono n _ _ _ _ hk h⟩
      obtain ⟨k, h1⟩ := vc_fuel (vc_mono (K' := fun e s' => ∃ m, match e with | .normal => LpN C N m c s' K | e => K e s') hM hv (fun e s' h => by
        cases e with
        | normal => obtain ⟨j, r, fz, h1, h2, h3⟩ := h; exact ih (μ j) (by omega) j rfl h1 s' r fz h3
        | exit i => exact ⟨0, h⟩
        | ret => exact ⟨0, h⟩))
      obtain ⟨m, h2⟩ := vc_ex (LpN_ex k) (LpN_mono k) h1
      refine ⟨max k m + 1, S i, r, fz, hf, vc_mono (LpN_le (Nat.le_max_left k m)) h2 (fun e s' h => ?_)⟩
      cases e with
      | normal => exact LpN_le (Nat.le_max_right k m) _ _ _ _ (fun _ _ => id) h
      | exit i => exact h
      | ret => exact h
  obtain ⟨i0, r0, fz0, hi0, hf0⟩ := h0
  exact key (μ i0) i0 rfl hi0 s r0 fz0 hf0
/-- From the condition to a contract whose result is known to fulfil 'Z'. -/
theorem EC_intro (hT : TyOK P C.Γ) (hA : ∀ g ys r outs, C.ac g ys r outs → AC P C.G g ys r outs) {f : FuncId} {fn : Func} {c : Code} (hf : P.funcs[f]? = some fn) (hb : fn.body = some c) (hname : (fn.name == "runtime.NumGoroutine") = false) {keys : List Nat} {args : List AV} (hsz : args.length ≤ fn.ntmps)
    {Z : AV → List AV → Prop} (hv : vcallP C fn.ntmps (Lpx C fn.ntmps) f c fn.results.toList keys args Z) : ∃ r outs, Z r outs ∧ AC P C.G f args r outs := by
  suffices H : ∃ x : AV × List AV, Z x.1 x.2 ∧ vcallP C fn.ntmps (Lpx C fn.ntmps) f c fn.results.toList keys args (IsR x.1 x.2) by
    obtain ⟨x, h1, h2⟩ := H
    exact ⟨x.1, x.2, h1, AC_intro hT hA hf hb hname hsz (Lpx_sound hT hA) h2⟩
  unfold vcallP startK at hv ⊢
  simp only [forceW_eq, St.setsK_eq, forceV_eq] at hv ⊢
  generalize St.zero.sets (startW 0 args) = st at hv
  obtain ⟨v0, t0, hp⟩ := st
  simp only at hv ⊢
  obtain ⟨k, h1⟩ := vc_fuel hv
  obtain ⟨x, h2⟩ := vc_ex (X := { x : AV × List AV // Z x.1 x.2 }) (Φ := fun x e s => match e with
    | .exit _ => False
    | _ => (retRd C f fn.results.toList args fun r outs ns zs => bif Nm.nodup ns && Nm.apart ns zs then .done [(.gh 0, .tup (r :: outs))] else .fail).wp s [] fun _ ws => match ws with | [(_, .tup (r :: outs))] => IsR x.1.1 x.1.2 r outs | _ => False) (LpN_ex k) (LpN_mono k) (vc_mono (LpN_mono k) h1 (fun e s h => by
      cases e with
      | exit i => exact h.elim
      | _ =>
        simp only at h ⊢
        refine wp_ex (Rd.wp_mono h (fun R ws h => ?_))
        split at h
        · rename_i r outs; exact ⟨⟨(r, outs), h⟩, isR rfl rfl⟩
        · exact h.elim))
  exact ⟨x.1, x.2, vc_mono (fun c s K K' hk h => ⟨k, LpN_mono k _ _ _ _ hk h⟩) h2 (fun _ _ => id)⟩
end
end Go.Proofs.YtaklcemgpinleaaDoor
