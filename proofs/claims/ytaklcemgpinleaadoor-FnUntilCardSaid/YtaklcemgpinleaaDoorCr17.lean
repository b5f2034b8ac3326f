/- Regions that draw their order; then control: lemmas of the layer. -/
import Derived.Test.YtaklcemgpinleaaDoorCr16
namespace Go.Proofs.YtaklcemgpinleaaDoor
open Go
set_option linter.unusedSimpArgs false
set_option linter.unusedVariables false
set_option linter.unnecessarySimpa false
set_option linter.unusedSectionVars false

section
variable {C : Cx} {P : Program} {E : Env} {Q : Exit → Act → World → Prop}
def bstep (acc : Array Nat) (o : Oper) : Array Nat := acc.push (o.after.foldl (fun s e => if Region.binds .any e then s ||| 2 ^ e.on ||| acc.getD e.on 0 else s) 0)
theorem bstep_bits {acc : Array Nat} {j : Nat} : ∀ {l : List Edge} {s : Nat}, Nat.testBit (l.foldl (fun s e => if Region.binds .any e then s ||| 2 ^ e.on ||| acc.getD e.on 0 else s) s) j = true →
    Nat.testBit s j = true ∨ ∃ e ∈ l, Region.binds .any e = true ∧ (j = e.on ∨ Nat.testBit (acc.getD e.on 0) j = true)
  | [], s, h => .inl h
  | e :: l, s, h => by
    simp only [List.foldl_cons] at h
    rcases bstep_bits h with h | ⟨e', h1, h2⟩
    · by_cases hb : Region.binds .any e = true
      · rw [if_pos hb, Nat.testBit_or, Nat.testBit_or, Nat.testBit_two_pow] at h
        simp only [Bool.or_eq_true, decide_eq_true_eq] at h
        rcases h with (h | h) | h
        · exact .inl h
        · exact .inr ⟨e, by simp, hb, .inl h.symm⟩
        · exact .inr ⟨e, by simp, hb, .inr h⟩
      · rw [if_neg hb] at h; exact .inl h
    · exact .inr ⟨e', by simp [h1], h2⟩
theorem bsteps : ∀ {l : List Oper} {acc : Array Nat}, (∀ k, k < acc.size → (l.foldl bstep acc).getD k 0 = acc.getD k 0) ∧
    ∀ (i : Nat) (o : Oper), l[i]? = some o → ∀ j, Nat.testBit ((l.foldl bstep acc).getD (acc.size + i) 0) j = true → ∃ e ∈ o.after.toList, Region.binds .any e = true ∧ (j = e.on ∨ Nat.testBit ((l.foldl bstep acc).getD e.on 0) j = true)
  | [], acc => ⟨fun _ _ => rfl, fun i o hi => by simp at hi⟩
  | x :: l, acc => by
    have hsz : (bstep acc x).size = acc.size + 1 := by simp [bstep]
    obtain ⟨h1, h2⟩ := bsteps (l := l) (acc := bstep acc x)
    have hkeep : ∀ k, k < acc.size → (l.foldl bstep (bstep acc x)).getD k 0 = acc.getD k 0 := fun k hk => by
      rw [h1 k (by omega)]
      simp only [bstep, Array.getD_eq_getD_getElem?, Array.getElem?_push]
      rw [if_neg (by omega)]
    refine ⟨hkeep, fun i o hi j hj => ?_⟩
    simp only [List.foldl_cons] at hj ⊢
    cases i with
    | zero =>
      simp at hi; subst hi
      rw [Nat.add_zero, h1 _ (by omega)] at hj
      have hval : (bstep acc x).getD acc.size 0 = x.after.toList.foldl (fun s e => if Region.binds .any e then s ||| 2 ^ e.on ||| acc.getD e.on 0 else s) 0 := by
        rw [Array.foldl_toList]
        simp [bstep]
      rw [hval] at hj
      rcases bstep_bits hj with q | ⟨e, q1, q2, q3⟩
      · simp at q
      · refine ⟨e, q1, q2, q3.imp id (fun q => ?_)⟩
        by_cases hlt : e.on < acc.size
        · rw [hkeep _ hlt]; exact q
        · have hz : acc.getD e.on 0 = 0 := by rw [Array.getD_eq_getD_getElem?, Array.getElem?_eq_none (by omega)]; rfl
          rw [hz] at q; simp at q
    | succ i =>
      have := h2 i o (by simpa using hi) j (by rw [hsz]; rwa [show acc.size + 1 + i = acc.size + (i + 1) from by omega])
      exact this
theorem before_spec {ops : Array Oper} {i j : Nat} {o : Oper} (hi : ops[i]? = some o) (hb : Nat.testBit ((Region.before ops).getD i 0) j = true) : ∃ e ∈ o.after.toList, Region.binds .any e = true ∧ (j = e.on ∨ Nat.testBit ((Region.before ops).getD e.on 0) j = true) := by
  have hB : Region.before ops = ops.toList.foldl bstep #[] := by rw [Array.foldl_toList]; rfl
  rw [hB] at hb ⊢
  exact (bsteps (l := ops.toList) (acc := #[])).2 i o (by simpa using hi) j (by simpa using hb)
theorem edgesBack_at : ∀ {l : List Oper} {k : Nat}, edgesBack k l = true → ∀ {i : Nat} {o : Oper}, l[i]? = some o → ∀ e ∈ o.after.toList, e.on < k + i
  | [], _, _, i, o, hi => by simp at hi
  | x :: l, k, hb, i, o, hi => by
    simp only [edgesBack, Bool.and_eq_true, List.all_eq_true, Nat.blt_eq] at hb
    cases i with
    | zero => simp at hi; subst hi; intro e he; exact hb.1 e he
    | succ i =>
      intro e he
      have := edgesBack_at hb.2 (i := i) (o := o) (by simpa using hi) e he
      omega
theorem binds_of_any {m : Region.Mode} {e : Edge} (h : Region.binds .any e = true) : Region.binds m e = true := by
  unfold Region.binds at *
  split at h <;> first | (simp at h; done) | rfl
theorem edgesIn_at {m : Region.Mode} {n : Nat} {pos : Nat → Nat} : ∀ {l : List Oper} {k : Nat}, edgesIn m n pos k l = true → ∀ {i : Nat} {o : Oper}, l[i]? = some o → ∀ e ∈ o.after.toList, Region.binds m e = true → e.on < n ∧ pos e.on < pos (k + i)
  | [], _, _, i, o, hi => by simp at hi
  | x :: l, k, hb, i, o, hi => by
    simp only [edgesIn, Bool.and_eq_true, List.all_eq_true, Bool.or_eq_true, Bool.not_eq_true', Nat.blt_eq] at hb
    cases i with
    | zero =>
      simp at hi; subst hi; intro e he hm
      rcases hb.1 e he with h | h
      · rw [h] at hm; cases hm
      · exact h
    | succ i =>
      intro e he hm
      have := edgesIn_at hb.2 (i := i) (o := o) (by simpa using hi) e he hm
      rwa [show k + (i + 1) = k + 1 + i from by omega]
theorem edgesOK_at {ops : Array Oper} (h : edgesOK ops = true) (m : Region.Mode) : ∃ pos : Nat → Nat, ∀ {i : Nat} {o : Oper}, ops[i]? = some o → ∀ e ∈ o.after.toList, Region.binds m e = true → e.on < ops.size ∧ pos e.on < pos i := by
  unfold edgesOK at h
  simp only [Bool.or_eq_true, Bool.and_eq_true] at h
  rcases h with h | ⟨h1, h2, h3⟩
  · refine ⟨id, fun {i o} hi e he _ => ?_⟩
    have := edgesBack_at h (i := i) (o := o) (by simpa using hi) e he
    have hi' := (Array.getElem?_eq_some_iff.1 hi).1
    simp only [Nat.zero_add, id] at *
    omega
  · cases m with
    | any => exact ⟨id, fun {i o} hi e he hm => by simpa using edgesIn_at h1 (i := i) (o := o) (by simpa using hi) e he hm⟩
    | text => exact ⟨id, fun {i o} hi e he hm => by simpa using edgesIn_at h2 (i := i) (o := o) (by simpa using hi) e he hm⟩
    | gc => exact ⟨_, fun {i o} hi e he hm => by simpa using edgesIn_at h3 (i := i) (o := o) (by simpa using hi) e he hm⟩
/-- Whatever order is drawn, the region comes to the same. -/
theorem draw_any (hT : TyOK P C.Γ) (hA : ∀ g ys r outs, C.ac g ys r outs → AC P C.G g ys r outs) {ops : Array Oper} {f f' : LF} {logs : List Log} (hc : Chain C E.N ops.toList ops.toList f logs f') (hw : allWait (Region.before ops).toList 0 [] logs = true) (he : edgesOK ops = true) {md : Region.Mode} (hQ : ∀ h' β' a' w', Sim C.G E f' h' β' a' w' → Q .normal a' w') :
    ∀ (fuel : Nat) (listed : Array Bool) (h : IH) (β : BM) (a : Act) (w : World), listed.size = ops.size → listed.toList.count false = fuel → (∀ i j, listed.getD i false = true → Nat.testBit ((Region.before ops).getD i 0) j = true → listed.getD j false = true) →
      Sim C.G E (runD logs 0 (fun j => listed.getD j false) f) h β a w → wpAny P md ops Q fuel listed a w := by
  obtain ⟨hlen0, hend⟩ := chain_end 0 hc
  have hlen : logs.length = ops.size := by rw [hlen0]; exact Array.length_toList
  -- all listed
  have done : ∀ (listed : Array Bool), listed.size = ops.size → (∀ i, i < ops.size → listed.getD i false = true) → ∀ {h β a w}, Sim C.G E (runD logs 0 (fun j => listed.getD j false) f) h β a w → Q .normal a w := by
    intro listed hsz hall h β a w hs
    have hf : runD logs 0 (fun j => listed.getD j false) f = f' := by
      rw [hend]; funext p
      refine runD_congr (fun j L hj _ => ?_) rfl
      have := (List.getElem?_eq_some_iff.1 hj).1
      rw [Nat.zero_add, hall j (by omega)]
    rw [hf] at hs
    exact hQ _ _ _ _ hs
  have unlisted : ∀ (listed : Array Bool), listed.size = ops.size → 0 < listed.toList.count false → Region.ready md ops listed ≠ [] := by
    intro listed hsz hcount hnil
    have hmem : false ∈ listed.toList := List.count_pos_iff.1 hcount
    obtain ⟨k, hk⟩ := List.getElem?_of_mem hmem
    -- the least unlisted
    obtain ⟨pos, hpos⟩ := edgesOK_at he md
    have key : ∀ q n, pos n = q → n < ops.size → listed.getD n true = false → False := by
      intro q
      induction q using Nat.strongRecOn with
      | _ q ih =>
        intro n hq0 hn hl
        have hon : ∃ o, ops[n]? = some o := ⟨ops[n], by simp [hn]⟩
        obtain ⟨o, ho⟩ := hon
        have : n ∈ Region.ready md ops listed := by
          rw [mem_ready]
          refine ⟨hl, o, ho, fun e hm hb => ?_⟩
          obtain ⟨hl1, hl2⟩ := hpos ho e (by simpa using hm) hb
          cases hq : listed.getD e.on false with
          | true => rfl
          | false =>
            exfalso
            refine ih (pos e.on) (by omega) e.on rfl hl1 ?_
            rw [Array.getD_eq_getD_getElem?] at hq ⊢
            rw [Array.getElem?_eq_getElem (by omega)] at hq ⊢
            simpa using hq
        rw [hnil] at this; cases this
    have hklt := (List.getElem?_eq_some_iff.1 hk).1
    rw [Array.length_toList] at hklt
    refine key _ k rfl (by omega) ?_
    rw [Array.getElem?_toList] at hk
    rw [Array.getD_eq_getD_getElem?, hk]; rfl
  intro fuel
  induction fuel with
  | zero =>
    intro listed h β a w hsz hcount hclo hs
    have hall : ∀ i, i < ops.size → listed.getD i false = true := fun i hi => by
      cases hq : listed.getD i false with
      | true => rfl
      | false =>
        exfalso
        have hm : false ∈ listed.toList := by
          rw [Array.getD_eq_getD_getElem?, Array.getElem?_eq_getElem (by omega)] at hq
          simp only [Option.getD_some] at hq
          rw [← hq]; simp
        have := List.count_pos_iff.2 hm
        omega
    refine ⟨?_, done listed hsz hall hs⟩
    cases hr : Region.ready md ops listed with
    | nil => rfl
    | cons i rs =>
      exfalso
      obtain ⟨q1, o, q2, _⟩ := mem_ready.1 (show i ∈ Region.ready md ops listed by rw [hr]; simp)
      have hi := (Array.getElem?_eq_some_iff.1 q2).1
      have := hall i hi
      rw [Array.getD_eq_getD_getElem?, Array.getElem?_eq_getElem (by omega)] at q1 this
      simp at q1 this; rw [q1] at this; cases this
  | succ fuel ih =>
    intro listed h β a w hsz hcount hclo hs
    refine ⟨fun hnil => absurd hnil (unlisted listed hsz (by omega)), fun i hi => ?_⟩
    obtain ⟨hun, o, ho, hedges⟩ := mem_ready.1 hi
    have hin : i < ops.size := (Array.getElem?_eq_some_iff.1 ho).1
    have hun' : listed.getD i false = false := by
      rw [Array.getD_eq_getD_getElem?, Array.getElem?_eq_getElem (by omega)] at hun ⊢
      simpa using hun
    obtain ⟨L, hL, hev⟩ := chain_at 0 hc (i := i) (o := o) (by simpa using ho)
    simp only [Nat.zero_add] at hev
    -- what i waits for is listed
    have hbefore : ∀ j, Nat.testBit ((Region.before ops).getD i 0) j = true → listed.getD j false = true := fun j hj => by
      obtain ⟨e, e1, e2, e3⟩ := before_spec ho hj
      have hl := hedges e (by simpa using e1) (binds_of_any e2)
      rcases e3 with rfl | e3
      · exact hl
      · exact hclo e.on j hl e3
    have hcalm : ∀ j L', logs[j]? = some L' → j ≠ i → (j < i ∧ listed.getD j false = true) ∨ (i < j ∧ listed.getD j false = false) ∨ (j < i ∧ Calm L' L) ∨ (i < j ∧ Calm L L') := by
      intro j L' hj hne
      have hbs : ∀ k, (Region.before ops).toList.getD k 0 = (Region.before ops).getD k 0 := fun k => by
        rw [List.getD_eq_getElem?_getD, Array.getD_eq_getD_getElem?, Array.getElem?_toList]
      rcases Nat.lt_or_gt_of_ne hne with q | q
      · rcases allWait_at (pre := []) hw q (by simp) (by simpa using hj) (by simpa using hL) with r | r
        · rw [hbs] at r; exact .inl ⟨q, hbefore j r⟩
        · exact .inr (.inr (.inl ⟨q, r⟩))
      · rcases allWait_at (pre := []) hw q (by simp) (by simpa using hL) (by simpa using hj) with r | r
        · rw [hbs] at r
          cases hq : listed.getD j false with
          | false => exact .inr (.inl ⟨q, rfl⟩)
          | true => have := hclo j i hq r; rw [hun'] at this; cases this
        · exact .inr (.inr (.inr ⟨q, r⟩))
    have hread : ∀ p ∈ L.R, runD logs 0 (fun j => listed.getD j false) f p = runD logs 0 (fun j => decide (j < i)) f p := fun p hp => by
      refine runD_congr (fun j L' hj hh => ?_) rfl
      simp only [Nat.zero_add]
      by_cases hne : j = i
      · subst hne; simp [hun']
      · rcases hcalm j L' hj hne with ⟨q1, q2⟩ | ⟨q1, q2⟩ | ⟨q1, q2⟩ | ⟨q1, q2⟩
        · simp [q1, q2]
        · have : ¬ j < i := by omega
          simp [this, q2]
        · exact absurd hh (q2.r2 p hp)
        · exact absurd hh (q2.r1 p hp)
    have hnext : runD logs 0 (fun j => (listed.setIfInBounds i true).getD j false) f = updL (runD logs 0 (fun j => listed.getD j false) f) L.W := by
      funext p
      have hset : ∀ j, j ≠ i → (listed.setIfInBounds i true).getD j false = listed.getD j false := fun j hj => getD_set_ne false (Ne.symm hj)
      have hseti : (listed.setIfInBounds i true).getD i false = true := by
        rw [Array.getD_eq_getD_getElem?, Array.getElem?_setIfInBounds_self_of_lt (by omega)]; rfl
      by_cases hh : Hits L.W p
      · -- i is the last to write p, or all write the same
        have hsplit : logs = logs.take i ++ (L :: logs.drop (i + 1)) := by
          have hil := (List.getElem?_eq_some_iff.1 hL).1
          have hget : logs[i] = L := (List.getElem?_eq_some_iff.1 hL).2
          rw [← hget, ← List.drop_eq_getElem_cons hil, List.take_append_drop]
        have happ : ∀ (xs ys : List Log) (k : Nat) (d : Nat → Bool) (g : LF), runD (xs ++ ys) k d g = runD ys (k + xs.length) d (runD xs k d g) := by
          intro xs
          induction xs with
          | nil => intro ys k d g; rfl
          | cons x xs ih => intro ys k d g; simp only [List.cons_append, runD, List.length_cons]; rw [ih, show k + 1 + xs.length = k + (xs.length + 1) from by omega]
        have htl : (logs.take i).length = i := by simp; omega
        rw [hsplit, happ, htl, Nat.zero_add]
        simp only [runD]
        rw [if_pos hseti]
        rw [updL_hit (g := runD (logs.take i) 0 (fun j => (listed.setIfInBounds i true).getD j false) f) hh]
        refine runD_keep rfl (fun j L' hj ht hh' g => ?_)
        have hj' : logs[i + 1 + j]? = some L' := by rw [List.getElem?_drop] at hj; exact hj
        rw [hset _ (by omega)] at ht
        rcases hcalm (i + 1 + j) L' hj' (by omega) with ⟨q1, _⟩ | ⟨_, q2⟩ | ⟨q1, _⟩ | ⟨_, q2⟩
        · omega
        · rw [q2] at ht; cases ht
        · omega
        · obtain ⟨u1, u2⟩ := q2.w p hh hh'
          rw [u1, u2]
      · rw [updL_miss hh]
        refine runD_congr (fun j L' hj hh' => ?_) rfl
        simp only [Nat.zero_add]
        by_cases hne : j = i
        · subst hne; rw [hL] at hj; simp at hj; subst hj; exact absurd hh' hh
        · exact hset j hne
    have hstep := step_ok (Q := Q) hT hA (hev _ hread) hs (K := wpAny P md ops Q fuel (listed.setIfInBounds i true)) (fun h' β' a' w' s' => by
      refine ih (listed.setIfInBounds i true) h' β' a' w' (by simp [hsz]) ?_ ?_ (by rw [hnext]; exact s')
      · rw [Array.toList_setIfInBounds, List.count_set (by rw [Array.length_toList]; omega)]
        have hgi : listed.toList[i]'(by rw [Array.length_toList]; omega) = false := by
          rw [Array.getD_eq_getD_getElem?, Array.getElem?_eq_getElem (by omega)] at hun'
          simpa using hun'
        rw [hgi, hcount]; simp
      · intro k j hk hj
        by_cases hki : k = i
        · subst hki
          exact getD_set_true (hbefore j hj)
        · rw [getD_set_ne false (Ne.symm hki)] at hk
          exact getD_set_true (hclo k j hk hj))
    unfold wpOp
    simp only [ho]
    split
    · rename_i hwt; rw [if_pos hwt] at hstep; exact .inl hstep
    · rename_i hwt; rw [if_neg hwt] at hstep; exact hstep
theorem vregion_ok (hT : TyOK P C.Γ) (hA : ∀ g ys r outs, C.ac g ys r outs → AC P C.G g ys r outs) {ops : Array Oper} {id : Nat} {d : Bool} {s : St} {K : St → Prop} (hv : vregion C E.N ops d s K) {h : IH} {β : BM} {a : Act} {w : World} (hs : Sim C.G E s.look h β a w)
    (hQ : ∀ s', K s' → ∀ h' β' a' w', Sim C.G E s'.look h' β' a' w' → Q .normal a' w') : (Code.region id ops d).wp P Q a w := by
  unfold vregion at hv
  obtain ⟨logs, s', hK, hc⟩ := vops_chain hv
  obtain ⟨v, t, hp⟩ := s'
  cases d with
  | false =>
    simp only at hK
    refine wp_region_list ?_
    exact chain_list hT hA hc hs (fun h' β' a' w' s' => hQ _ hK _ _ _ _ (sim_drop s'))
  | true =>
    simp only [List.append_nil, List.reverse_reverse, Bool.and_eq_true] at hK
    obtain ⟨⟨hw, he⟩, hK⟩ := hK
    refine wp_region_draw fun t => ?_
    have hs' : Sim C.G E s.look h β a { w with drawn := w.drawn + 1 } := hs.world rfl rfl rfl rfl
    have any : ∀ md t, wpOps P ops Q (Region.linearise md ops t) a { w with drawn := w.drawn + 1 } := fun md t => by
      refine wpAny_sound ops.size t _ a _ (draw_any hT hA hc hw he (fun h' β' a' w' s' => hQ _ hK _ _ _ _ (sim_drop s')) ops.size _ h β a _ (by simp) (by simp) (fun i j hi => ?_) ?_)
      · rw [Array.getD_eq_getD_getElem?, Array.getElem?_replicate] at hi
        split at hi <;> cases hi
      · rw [runD_none (fun j => by
          rw [Array.getD_eq_getD_getElem?, Array.getElem?_replicate]
          split <;> rfl)]
        exact hs'
    unfold Region.schedule
    split
    · exact any _ _
    · exact any _ _
end
end Go.Proofs.YtaklcemgpinleaaDoor
