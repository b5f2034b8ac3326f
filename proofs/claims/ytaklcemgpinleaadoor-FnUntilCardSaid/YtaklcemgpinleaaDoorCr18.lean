/- A function's code does to a fitting state what the layer says; its contract. -/
import Derived.Test.YtaklcemgpinleaaDoorCr17
namespace Go.Proofs.YtaklcemgpinleaaDoor
open Go
set_option linter.unusedSimpArgs false
set_option linter.unusedVariables false
set_option linter.unnecessarySimpa false
set_option linter.unusedSectionVars false

abbrev toExit : XExit → Exit
  | .normal => .normal | .exit i => .exit i | .ret => .ret
section
variable {C : Cx} {P : Program} {E : Env} {Q : Exit → Act → World → Prop} {h : IH} {β : BM} {a : Act} {w : World}
def Post (C : Cx) (E : Env) (Q : Exit → Act → World → Prop) (K : XExit → St → Prop) : Prop := ∀ e s', K e s' → ∀ h' β' a' w', Sim C.G E s'.look h' β' a' w' → Q (toExit e) a' w'
/-- What is to be shown of a loop. -/
def LpOf (P : Program) (C : Cx) (N : Nat) : Code → St → (XExit → St → Prop) → Prop := fun c s K =>
  ∀ (E : Env), E.N = N → ∀ Q h β a w, Sim C.G E s.look h β a w → Post C E Q K → (Code.loop c).wp P Q a w
theorem vc_ok (hT : TyOK P C.Γ) (hA : ∀ g ys r outs, C.ac g ys r outs → AC P C.G g ys r outs) {Lp : Code → St → (XExit → St → Prop) → Prop} (hLp : ∀ c s K, Lp c s K → LpOf P C E.N c s K) : ∀ {c : Code} {s : St} {K : XExit → St → Prop} {Q : Exit → Act → World → Prop} {h : IH} {β : BM} {a : Act} {w : World}, vc C E.N Lp c s K → Sim C.G E s.look h β a w → Post C E Q K → c.wp P Q a w
  | .skip, s, K, Q, h, β, a, w, hv, hs, hQ => wp_skip (hQ _ _ hv _ _ _ _ hs)
  | .ret, s, K, Q, h, β, a, w, hv, hs, hQ => wp_ret (hQ _ _ hv _ _ _ _ hs)
  | .exit id, s, K, Q, h, β, a, w, hv, hs, hQ => wp_exit (hQ _ _ hv _ _ _ _ hs)
  | .seq x y, s, K, Q, h, β, a, w, hv, hs, hQ => by
    refine wp_seq (vc_ok hT hA hLp (c := x) hv hs (fun e s' hK h' β' a' w' hs' => ?_))
    cases e with
    | normal => exact vc_ok hT hA hLp (c := y) hK hs' hQ
    | exit i => exact hQ _ _ hK _ _ _ _ hs'
    | ret => exact hQ _ _ hK _ _ _ _ hs'
  | .cond c x y, s, K, Q, h, β, a, w, hv, hs, hQ => by
    simp only [vc] at hv
    have key : ∀ b, a.eval c = .bool b → Br b (vc C E.N Lp x s K) (vc C E.N Lp y s K) → (Code.cond c x y).wp P Q a w := by
      intro b hc hb
      refine wp_cond_split hc (fun e => ?_) (fun e => ?_)
      · subst e; exact vc_ok hT hA hLp (c := x) hb hs hQ
      · subst e; exact vc_ok hT hA hLp (c := y) hb hs hQ
    split at hv
    · rename_i t
      split at hv
      · rename_i b hb
        have := hs.tmps t
        rw [hb] at this
        exact key b (simV this).1 hv
      · exact hv.elim
    · exact key _ rfl hv
    · exact hv.elim
  | .block id x, s, K, Q, h, β, a, w, hv, hs, hQ => by
    refine wp_block (vc_ok hT hA hLp (c := x) hv hs (fun e s' hK h' β' a' w' hs' => ?_))
    cases e with
    | normal => exact hQ _ _ hK _ _ _ _ hs'
    | exit i =>
      simp only [Exit.inBlock]
      by_cases hi : i = id
      · subst hi
        simp only [Nat.beq_refl, cond_true] at hK
        rw [if_pos rfl]
        exact hQ _ _ hK _ _ _ _ hs'
      · simp only [natbeq_false hi, cond_false] at hK
        rw [if_neg hi]
        exact hQ _ _ hK _ _ _ _ hs'
    | ret => exact hQ _ _ hK _ _ _ _ hs'
  | .region id ops d, s, K, Q, h, β, a, w, hv, hs, hQ => vregion_ok hT hA hv hs (fun s' hK h' β' a' w' hs' => hQ _ _ hK _ _ _ _ hs')
  | .loop c, s, K, Q, h, β, a, w, hv, hs, hQ => hLp _ _ _ hv E rfl Q h β a w hs hQ
  | .label _, s, K, Q, h, β, a, w, hv, hs, hQ => hv.elim
  | .goto _, s, K, Q, h, β, a, w, hv, hs, hQ => hv.elim
  | .refuse _, s, K, Q, h, β, a, w, hv, hs, hQ => hv.elim
  | .scope _, s, K, Q, h, β, a, w, hv, hs, hQ => hv.elim
  | .rangeFunc _ _ _ _, s, K, Q, h, β, a, w, hv, hs, hQ => hv.elim

/-! ## The beginning -/
theorem Sim.know {f : LF} (hs : Sim C.G E f h β a w) {t : Nat} {x : AV} (hv : SimR h β x (a.tmps.getD t undef)) : Sim C.G E (upd f (.tmp t) x) h β a w where
  glob := hs.glob
  on := hs.on
  fr := hs.fr
  le0 := hs.le0
  fresh := hs.fresh
  old := hs.old
  size := hs.size
  defers := hs.defers
  tmps u := by
    simp only [upd, Pl.tmp.injEq]
    split
    · rename_i e; subst e; exact hv
    · exact hs.tmps u
  ghost j := by simpa [upd] using hs.ghost j
  free n := by simpa [upd] using hs.free n
  rows n fr := by simpa [upd] using hs.rows n fr
  boxes n sz := by simpa [upd, BoxOK] using hs.boxes n sz
  inj n n' b := by simpa [upd, OwnB] using hs.inj n n' b
  own n b := by simpa [upd, OwnB] using hs.own n b
theorem Sim.knowG {f : LF} (hs : Sim C.G E f h β a w) {t : Nat} {x : AV} (hv : SimR h β x (E.gh t)) : Sim C.G E (upd f (.gh t) x) h β a w where
  glob := hs.glob
  on := hs.on
  fr := hs.fr
  le0 := hs.le0
  fresh := hs.fresh
  old := hs.old
  size := hs.size
  defers := hs.defers
  tmps u := by simpa [upd] using hs.tmps u
  ghost j := by
    simp only [upd, Pl.gh.injEq]
    split
    · rename_i e; subst e; exact hv
    · exact hs.ghost j
  free n := by simpa [upd] using hs.free n
  rows n fr := by simpa [upd] using hs.rows n fr
  boxes n sz := by simpa [upd, BoxOK] using hs.boxes n sz
  inj n n' b := by simpa [upd, OwnB] using hs.inj n n' b
  own n b := by simpa [upd, OwnB] using hs.own n b
def Nm.root : Nm → Nm
  | .sub n _ => n.root
  | n => n
theorem impR_root {n : Nm} {x : AV} {m : Nm} {y : AV} (hm : (Pl.live m, y) ∈ (impR n x).2) : m.root = n.root := by
  have hT : ∀ {x : AV}, (Pl.live m, y) ∈ (impT n x).2 → m.root = n.root := fun hm => by
    rcases sub_of_names hm rfl with e | ⟨c, e⟩ <;> subst e <;> rfl
  have hTs : ∀ {xs : List AV} {c : Nat}, (Pl.live m, y) ∈ (impTs n c xs).2 → m.root = n.root := fun hm => by
    obtain ⟨c', _, q⟩ := impTs_names hm
    rcases q with q | q | ⟨d, q⟩ | ⟨d, q | q⟩ <;> simp at q <;> subst q <;> rfl
  cases x <;> simp only [impR] at hm <;> first | exact hTs hm | exact hT hm
theorem RelA.length {h : IH} {w : World} : ∀ {xs : List AV} {vs : List Value} {bs : List Nat}, RelA h w xs vs bs → xs.length = vs.length
  | [], [], _, _ => rfl
  | _ :: _, _ :: _, _, hr => by obtain ⟨_, _, _, r2, _⟩ := hr; simp [r2.length]
  | [], _ :: _, _, hr => hr.elim
  | _ :: _, [], _, hr => hr.elim
theorem starts_ok : ∀ {args : List AV} {vs : List Value} {bs : List Nat} {j : Nat} {f : LF} {β : BM}, Sim C.G E f h β a w → RelA h w args vs bs → bs.Nodup → (∀ b ∈ bs, Loose E f β h b) → (∀ m k, j ≤ k → m.root = .arg k → f (.live m) = .undef) →
    (∀ i v, vs[i]? = some v → a.tmps.getD (j + i) undef = v ∧ E.gh (j + i) = v) → ∃ β', Sim C.G E (updL f (startW j args)) h β' a w
  | [], [], bs, j, f, β, hs, _, _, _, _, _ => ⟨β, hs⟩
  | x :: xs, v :: vs, bs, j, f, β, hs, hr, hn, hb, hf, hv => by
    obtain ⟨b1, b2, r1, r2, rfl⟩ := hr
    obtain ⟨β1, t1, s1⟩ := impR_ok (n := .arg j) hs r1 (List.nodup_append.1 hn).1 (fun b hm => hb b (by simp [hm])) (fun m y hm => hf m j (Nat.le_refl _) (by rw [impR_root hm]; rfl))
    obtain ⟨v1, v2⟩ := hv 0 v rfl
    rw [Nat.add_zero] at v1 v2
    have k1 := t1.sim.know (t := j) (x := (impR (.arg j) x).1) (by rw [v1]; exact s1)
    have k2 := k1.knowG (t := j) (x := (impR (.arg j) x).1) (by rw [v2]; exact s1)
    have hlive : ∀ m, upd (upd (updL f (impR (.arg j) x).2) (.tmp j) (impR (.arg j) x).1) (.gh j) (impR (.arg j) x).1 (.live m) = updL f (impR (.arg j) x).2 (.live m) := fun m => by simp [upd]
    obtain ⟨β2, s2⟩ := starts_ok (args := xs) (j := j + 1) k2 r2 (List.nodup_append.1 hn).2.1 (fun b hm => by
      obtain ⟨l1, l2, l3⟩ := (hb b (by simp [hm])).after t1 (nodup_append_not hn hm)
      refine ⟨l1, fun m ho => l2 m ?_, l3⟩
      unfold OwnB at *
      rwa [hlive] at ho) (fun m k hk hm => by
      rw [hlive, updL_live (fun q => ?_)]
      · exact hf m k (by omega) hm
      · obtain ⟨y, hy⟩ := mem_liveN.1 q
        have := impR_root hy
        rw [hm] at this
        simp [Nm.root] at this; omega) (fun i u hu => by
      have := hv (i + 1) u (by simpa using hu)
      rwa [show j + (i + 1) = j + 1 + i from by omega] at this)
    refine ⟨β2, ?_⟩
    simp only [startW]
    rw [updL_append]
    exact s2
  | [], _ :: _, _, _, _, _, _, hr, _, _, _, _ => hr.elim
  | _ :: _, [], _, _, _, _, _, hr, _, _, _, _ => hr.elim
theorem zero_look (p : Pl) : St.zero.look p = .undef := by cases p <;> rfl
theorem look_keys (g : Nat → AV) (st : St) (hg : ∀ u, g u = st.look (.tmp u)) (keys : List Nat) (p : Pl) : (St.mk (keys.map fun t => (t, g t)) [] st.heap).look p = st.look p ∨ (∃ u, p = .tmp u) ∧ (St.mk (keys.map fun t => (t, g t)) [] st.heap).look p = .undef := by
  have key : ∀ (u : Nat) (keys : List Nat), lookN u (keys.map fun t => (t, g t)) = some (g u) ∨ lookN u (keys.map fun t => (t, g t)) = none := by
    intro u keys
    induction keys with
    | nil => exact .inr rfl
    | cons k ks ih =>
      simp only [List.map_cons, lookN]
      by_cases e : k = u
      · subst e; simp
      · rw [natbeq_false e]; exact ih
  cases p with
  | tmp u =>
    rcases key u keys with e | e
    · left; rw [← hg]; show (match lookN u _ with | some a => a | none => _) = _; rw [e]
    · right; refine ⟨⟨u, rfl⟩, ?_⟩; show (match lookN u _ with | some a => a | none => _) = _; rw [e]; rfl
  | _ => exact .inl rfl

/-! ## The end -/
def resOne (tmps : Array Value) : ResultVar → Sem Value
  | .tmp t => pure (tmps.getD t undef)
  | .cell b t => do loadVar t (← asAddr (tmps.getD b undef))
theorem resRd_ok (hT : TyOK P C.Γ) {f : LF} {ws : Ws} {r : ResultVar} {k : AV → Rd} (hev : (resRd C r k).ev f ws) (hs : Sim C.G E f h β a w) :
    ∃ x v, (k x).ev f ws ∧ (resOne a.tmps r).run P w = .ok v w ∧ SimR h β x v := by
  cases r with
  | tmp t => exact ⟨_, _, hev, rfl, hs.tmps t⟩
  | cell b T =>
    obtain ⟨y, v, h1, h2, h3⟩ := aload_ok hT (get_ev hev) hs (hs.tmps b)
    refine ⟨y, v, h1, ?_, h3⟩
    simp only [resOne]
    generalize a.tmps.getD b undef = u at h2
    have key : ∀ u, (Instr.loadAt T u).run P w = .ok v w → (do loadVar T (← asAddr u) : Sem Value).run P w = .ok v w := fun u hu => by
      cases u with
      | pointer p => cases p <;> simp [Instr.loadAt, Instr.sureAddr, asAddr, stuck] at hu ⊢; exact hu
      | _ => simp [Instr.loadAt, Instr.sureAddr, stuck] at hu
    exact key u h2
theorem resRds_ok (hT : TyOK P C.Γ) {f : LF} {ws : Ws} (hs : Sim C.G E f h β a w) : ∀ {rs : List ResultVar} {k : List AV → Rd}, (resRds C rs k).ev f ws →
    ∃ xs vs, (k xs).ev f ws ∧ (rs.mapM (resOne a.tmps)).run P w = .ok vs w ∧ SimA h β xs vs
  | [], k, hev => ⟨[], [], hev, by simp, trivial⟩
  | r :: rs, k, hev => by
    obtain ⟨x, v, h1, h2, h3⟩ := resRd_ok hT hev hs
    obtain ⟨xs, vs, h4, h5, h6⟩ := resRds_ok hT hs h1
    refine ⟨x :: xs, v :: vs, h4, ?_, h3, h6⟩
    rw [List.mapM_cons, Sem.run_bind, h2, Result.andThen_ok, Sem.run_bind, h5]
    rfl
theorem simTL_of_exp {f : LF} : ∀ {xs ys : List AV} {ns zs : List Nm} {vs : List Value}, ExpTL f xs ys ns zs → SimA h β xs vs → SimTL h β xs vs
  | [], _, _, _, [], _, _ => trivial
  | x :: xs, ys, ns, zs, v :: vs, he, hv => by
    obtain ⟨y, ys', n1, n2, z1, z2, e1, e2, _⟩ := he
    refine ⟨?_, simTL_of_exp e2 hv.2⟩
    have := hv.1
    cases x <;> first | exact this | exact e1.elim
  | [], _, _, _, _ :: _, _, hv => hv.elim
  | _ :: _, _, _, _, [], _, hv => hv.elim
def OutC (f : LF) (x o : AV) (ns : List Nm) : Prop := (o = .undef ∧ ns = []) ∨ ExpC f x o ns []
def OutL (f : LF) : List AV → List AV → List Nm → Prop
  | [], os, ns => os = [] ∧ ns = []
  | x :: xs, os, ns => ∃ o os' n1 n2, OutC f x o n1 ∧ OutL f xs os' n2 ∧ os = o :: os' ∧ ns = n1 ++ n2
def OutT (f : LF) (x o : AV) (ns zs : List Nm) : Prop :=
  (OutC f x o ns ∧ zs = []) ∨ (∃ xs os, x = .agg xs ∧ o = .agg os ∧ OutL f xs os ns ∧ zs = []) ∨ ((∃ n, x = .ptr n 0) ∧ ExpT f x o ns zs)
def OutTL (f : LF) : List AV → List AV → List Nm → List Nm → Prop
  | [], os, ns, zs => os = [] ∧ ns = [] ∧ zs = []
  | x :: xs, os, ns, zs => ∃ o os' n1 n2 z1 z2, OutT f x o n1 z1 ∧ OutTL f xs os' n2 z2 ∧ os = o :: os' ∧ ns = n1 ++ n2 ∧ zs = z1 ++ z2
def OutR (f : LF) (x o : AV) (ns zs : List Nm) : Prop :=
  OutT f x o ns zs ∨ ∃ g xs os, x = .fn g xs ∧ o = .fn g os ∧ OutTL f xs os ns zs
def OutA (f : LF) : Nat → List AV → List AV → List Nm → List Nm → Prop
  | _, [], os, ns, zs => os = [] ∧ ns = [] ∧ zs = []
  | j, _ :: ys, os, ns, zs => ∃ o os' n1 n2 z1 z2, ((o = .undef ∧ n1 = [] ∧ z1 = []) ∨ OutR f (f (.gh j)) o n1 z1) ∧ OutA f (j + 1) ys os' n2 z2 ∧ os = o :: os' ∧ ns = n1 ++ n2 ∧ zs = z1 ++ z2
section
variable {f : LF} {ws : Ws}
theorem outC_ev {x : AV} {k : AV → List Nm → Rd} (hev : (outC x k).ev f ws) : ∃ o ns, (k o ns).ev f ws ∧ OutC f x o ns := by
  unfold outC at hev
  split at hev
  · replace hev := get_ev hev
    split at hev
    · rename_i hl
      replace hev := get_ev hev
      split at hev <;> try exact (fail_ev.1 hev).elim
      rename_i hr
      exact ⟨_, _, hev, .inr ⟨false, _, _, hl, hr, .inl ⟨rfl, rfl, rfl, rfl⟩⟩⟩
    · exact ⟨_, _, hev, .inl ⟨rfl, rfl⟩⟩
  · replace hev := get_ev hev
    split at hev
    · rename_i hl
      replace hev := get_ev hev
      split at hev <;> try exact (fail_ev.1 hev).elim
      rename_i hr
      exact ⟨_, _, hev, .inr ⟨false, _, _, hl, hr, .inl ⟨rfl, rfl, rfl, rfl⟩⟩⟩
    · exact ⟨_, _, hev, .inl ⟨rfl, rfl⟩⟩
  · exact ⟨_, _, hev, .inl ⟨rfl, rfl⟩⟩
theorem outCs_ev : ∀ {xs : List AV} {k : List AV → List Nm → Rd}, (outCs xs k).ev f ws → ∃ os ns, (k os ns).ev f ws ∧ OutL f xs os ns
  | [], k, hev => ⟨_, _, hev, rfl, rfl⟩
  | x :: xs, k, hev => by
    obtain ⟨o, n1, h1, e1⟩ := outC_ev hev
    obtain ⟨os, n2, h2, e2⟩ := outCs_ev h1
    exact ⟨_, _, h2, _, _, _, _, e1, e2, rfl, rfl⟩
theorem outT_ev {x : AV} {k : AV → List Nm → List Nm → Rd} (hev : (outT x k).ev f ws) : ∃ o ns zs, (k o ns zs).ev f ws ∧ OutT f x o ns zs := by
  unfold outT at hev
  split at hev
  · obtain ⟨os, ns, h1, e1⟩ := outCs_ev hev
    exact ⟨_, _, _, h1, .inr (.inl ⟨_, _, rfl, rfl, e1, rfl⟩)⟩
  · rename_i n
    replace hev := get_ev hev
    split at hev
    · rename_i sz hl
      have hev := getCells_ev hev
      obtain ⟨ys, ns, zs, h1, e⟩ := expCs_ev hev
      exact ⟨_, _, _, h1, .inr (.inr ⟨⟨n, rfl⟩, sz, ys, ns, hl, by simpa using e, rfl, rfl⟩)⟩
    · exact ⟨_, _, _, hev, .inl ⟨.inl ⟨rfl, rfl⟩, rfl⟩⟩
  · obtain ⟨o, ns, h1, e1⟩ := outC_ev hev
    exact ⟨_, _, _, h1, .inl ⟨e1, rfl⟩⟩
theorem outTs_ev : ∀ {xs : List AV} {k : List AV → List Nm → List Nm → Rd}, (outTs xs k).ev f ws → ∃ os ns zs, (k os ns zs).ev f ws ∧ OutTL f xs os ns zs
  | [], k, hev => ⟨_, _, _, hev, rfl, rfl, rfl⟩
  | x :: xs, k, hev => by
    obtain ⟨o, n1, z1, h1, e1⟩ := outT_ev hev
    obtain ⟨os, n2, z2, h2, e2⟩ := outTs_ev h1
    exact ⟨_, _, _, h2, _, _, _, _, _, _, e1, e2, rfl, rfl, rfl⟩
theorem outR_ev {x : AV} {k : AV → List Nm → List Nm → Rd} (hev : (outR x k).ev f ws) : ∃ o ns zs, (k o ns zs).ev f ws ∧ OutR f x o ns zs := by
  unfold outR at hev
  split at hev
  · obtain ⟨os, ns, zs, h1, e1⟩ := outTs_ev hev
    exact ⟨_, _, _, h1, .inr ⟨_, _, _, rfl, rfl, e1⟩⟩
  · exact ⟨_, _, _, hev, .inl (.inl ⟨.inl ⟨rfl, rfl⟩, rfl⟩)⟩
  · obtain ⟨o, ns, zs, h1, e1⟩ := outT_ev hev
    exact ⟨_, _, _, h1, .inl e1⟩
theorem outArgs_ev : ∀ {ys : List AV} {j : Nat} {k : List AV → List Nm → List Nm → Rd}, (outArgs j ys k).ev f ws → ∃ os ns zs, (k os ns zs).ev f ws ∧ OutA f j ys os ns zs
  | [], j, k, hev => ⟨_, _, _, hev, rfl, rfl, rfl⟩
  | y :: ys, j, k, hev => by
    unfold outArgs at hev
    split at hev
    · obtain ⟨os, ns, zs, h1, e1⟩ := outArgs_ev hev
      exact ⟨_, _, _, h1, _, _, [], _, [], _, .inl ⟨rfl, rfl, rfl⟩, e1, rfl, rfl, rfl⟩
    · obtain ⟨os, ns, zs, h1, e1⟩ := outArgs_ev hev
      exact ⟨_, _, _, h1, _, _, [], _, [], _, .inl ⟨rfl, rfl, rfl⟩, e1, rfl, rfl, rfl⟩
    · replace hev := get_ev hev
      obtain ⟨o, n1, z1, h1, e1⟩ := outR_ev hev
      obtain ⟨os, n2, z2, h2, e2⟩ := outArgs_ev h1
      exact ⟨_, _, _, h2, _, _, _, _, _, _, .inr e1, e2, rfl, rfl, rfl⟩
theorem OutT.frozen {x o : AV} {ns zs : List Nm} (he : OutT f x o ns zs) : ∀ z ∈ zs, ∃ fr, f (.live z) = .lrow fr := by
  rcases he with ⟨_, rfl⟩ | ⟨_, _, _, _, _, rfl⟩ | ⟨_, he⟩
  · simp
  · simp
  · exact he.frozen
theorem OutTL.frozen : ∀ {xs os : List AV} {ns zs : List Nm}, OutTL f xs os ns zs → ∀ z ∈ zs, ∃ fr, f (.live z) = .lrow fr
  | [], _, _, _, he => by obtain ⟨_, _, rfl⟩ := he; simp
  | x :: xs, os, ns, zs, he => by
    obtain ⟨o, os', n1, n2, z1, z2, e1, e2, _, _, rfl⟩ := he
    intro z hz
    rcases List.mem_append.1 hz with q | q
    · exact e1.frozen z q
    · exact OutTL.frozen e2 z q
theorem OutR.frozen {x o : AV} {ns zs : List Nm} (he : OutR f x o ns zs) : ∀ z ∈ zs, ∃ fr, f (.live z) = .lrow fr := by
  rcases he with he | ⟨_, _, _, _, _, he⟩
  · exact he.frozen
  · exact he.frozen
theorem OutA.frozen : ∀ {ys os : List AV} {j : Nat} {ns zs : List Nm}, OutA f j ys os ns zs → ∀ z ∈ zs, ∃ fr, f (.live z) = .lrow fr
  | [], _, _, _, _, he => by obtain ⟨_, _, rfl⟩ := he; simp
  | y :: ys, os, j, ns, zs, he => by
    obtain ⟨o, os', n1, n2, z1, z2, e1, e2, _, _, rfl⟩ := he
    intro z hz
    rcases List.mem_append.1 hz with q | q
    · rcases e1 with ⟨_, _, rfl⟩ | e1
      · cases q
      · exact e1.frozen z q
    · exact OutA.frozen e2 z q
variable {f1 : LF} (hs : Sim C.G E f1 h β a w) (hrow : ∀ n, f1 (.row n) = f (.row n)) (hcell : ∀ n c, f1 (.cell n c) = f (.cell n c))
include hs hrow
theorem outC_rel {x o : AV} {ns : List Nm} (hn : ∀ n ∈ ns, f1 (.live n) = f (.live n)) (he : OutC f x o ns) {v : Value} (hv : SimC h β x v) : RelC h w o v (ns.flatMap (blkOf β)) ∧ ∀ n ∈ ns, Alone f1 n := by
  rcases he with ⟨rfl, rfl⟩ | he
  · exact ⟨rfl, by simp⟩
  · exact relC_of hs hrow (zs := []) (by simp) hn he hv
theorem outL_rel : ∀ {xs os : List AV} {ns : List Nm}, (∀ n ∈ ns, f1 (.live n) = f (.live n)) → OutL f xs os ns → ∀ {vs : List Value}, SimL h β xs vs → RelL h w os vs (ns.flatMap (blkOf β)) ∧ ∀ n ∈ ns, Alone f1 n
  | [], os, ns, hn, he, vs, hv => by
    obtain ⟨rfl, rfl⟩ := he
    cases vs with
    | nil => exact ⟨rfl, by simp⟩
    | cons _ _ => exact hv.elim
  | x :: xs, os, ns, hn, he, vs, hv => by
    obtain ⟨o, os', n1, n2, e1, e2, rfl, rfl⟩ := he
    cases vs with
    | nil => exact hv.elim
    | cons v vs =>
      obtain ⟨r1, a1⟩ := outC_rel hs hrow (fun n hm => hn n (by simp [hm])) e1 hv.1
      obtain ⟨r2, a2⟩ := outL_rel (fun n hm => hn n (by simp [hm])) e2 hv.2
      exact ⟨⟨_, _, r1, r2, by simp⟩, fun n hm => by rcases List.mem_append.1 hm with q | q; exact a1 n q; exact a2 n q⟩
include hcell
theorem outT_rel {x o : AV} {ns zs : List Nm} (hz : ∀ z ∈ zs, f1 (.live z) = .lrow true) (hn : ∀ n ∈ ns, f1 (.live n) = f (.live n)) (he : OutT f x o ns zs) {v : Value} (hv : SimT h β x v) : RelT h w o v (ns.flatMap (blkOf β)) ∧ ∀ n ∈ ns, Alone f1 n := by
  rcases he with ⟨he, rfl⟩ | ⟨xs, os, rfl, rfl, he, rfl⟩ | ⟨_, he⟩
  · rcases he with ⟨rfl, rfl⟩ | he
    · exact ⟨rfl, by simp⟩
    · have hv' : SimC h β x v := by cases x <;> first | exact hv | exact he.elim
      obtain ⟨r1, r2⟩ := relC_of hs hrow (zs := []) (by simp) hn he hv'
      refine ⟨?_, r2⟩
      cases o <;> first | exact r1 | exact r1.elim
  · obtain ⟨vs, rfl, hv⟩ := hv
    obtain ⟨r1, r2⟩ := outL_rel hs hrow hn he hv
    exact ⟨⟨vs, rfl, r1⟩, r2⟩
  · exact relT_of hs hrow hcell hz hn he hv
theorem outTL_rel : ∀ {xs os : List AV} {ns zs : List Nm}, (∀ z ∈ zs, f1 (.live z) = .lrow true) → (∀ n ∈ ns, f1 (.live n) = f (.live n)) → OutTL f xs os ns zs → ∀ {vs : List Value}, SimTL h β xs vs → RelTL h w os vs (ns.flatMap (blkOf β)) ∧ ∀ n ∈ ns, Alone f1 n
  | [], os, ns, zs, hz, hn, he, vs, hv => by
    obtain ⟨rfl, rfl, rfl⟩ := he
    cases vs with
    | nil => exact ⟨rfl, by simp⟩
    | cons _ _ => exact hv.elim
  | x :: xs, os, ns, zs, hz, hn, he, vs, hv => by
    obtain ⟨o, os', n1, n2, z1, z2, e1, e2, rfl, rfl, rfl⟩ := he
    cases vs with
    | nil => exact hv.elim
    | cons v vs =>
      obtain ⟨r1, a1⟩ := outT_rel hs hrow hcell (fun z hm => hz z (by simp [hm])) (fun n hm => hn n (by simp [hm])) e1 hv.1
      obtain ⟨r2, a2⟩ := outTL_rel (fun z hm => hz z (by simp [hm])) (fun n hm => hn n (by simp [hm])) e2 hv.2
      exact ⟨⟨_, _, r1, r2, by simp⟩, fun n hm => by rcases List.mem_append.1 hm with q | q; exact a1 n q; exact a2 n q⟩
theorem outR_rel {x o : AV} {ns zs : List Nm} (hz : ∀ z ∈ zs, f1 (.live z) = .lrow true) (hn : ∀ n ∈ ns, f1 (.live n) = f (.live n)) (he : OutR f x o ns zs) {v : Value} (hv : SimR h β x v) : RelR h w o v (ns.flatMap (blkOf β)) ∧ ∀ n ∈ ns, Alone f1 n := by
  rcases he with he | ⟨g, xs, os, rfl, rfl, he⟩
  · have key : o = .undef ∧ ns = [] ∨ SimT h β x v := by
      rcases he with ⟨he, _⟩ | ⟨xs, os, rfl, _⟩ | ⟨⟨n, rfl⟩, _⟩
      · rcases he with ⟨rfl, rfl⟩ | he
        · exact .inl ⟨rfl, rfl⟩
        · right; cases x <;> first | exact hv | exact he.elim
      · exact .inr hv
      · exact .inr hv
    rcases key with ⟨rfl, rfl⟩ | hv
    · exact ⟨rfl, by simp⟩
    · obtain ⟨r1, r2⟩ := outT_rel hs hrow hcell hz hn he hv
      refine ⟨?_, r2⟩
      cases o <;> first | exact r1 | exact r1.elim
  · obtain ⟨vs, rfl, hv⟩ := hv
    obtain ⟨r1, r2⟩ := outTL_rel hs hrow hcell hz hn he hv
    exact ⟨⟨vs, rfl, r1⟩, r2⟩
theorem outA_rel (hgh : ∀ j, SimR h β (f (.gh j)) (E.gh j)) : ∀ {ys os : List AV} {j : Nat} {ns zs : List Nm}, (∀ z ∈ zs, f1 (.live z) = .lrow true) → (∀ n ∈ ns, f1 (.live n) = f (.live n)) → OutA f j ys os ns zs → ∀ {vs : List Value}, vs.length = ys.length → (∀ i v, vs[i]? = some v → E.gh (j + i) = v) → RelA h w os vs (ns.flatMap (blkOf β)) ∧ ∀ n ∈ ns, Alone f1 n
  | [], os, j, ns, zs, hz, hn, he, vs, hl, hv => by
    obtain ⟨rfl, rfl, rfl⟩ := he
    have : vs = [] := List.eq_nil_of_length_eq_zero hl
    subst this
    exact ⟨rfl, by simp⟩
  | y :: ys, os, j, ns, zs, hz, hn, he, vs, hl, hv => by
    obtain ⟨o, os', n1, n2, z1, z2, e1, e2, rfl, rfl, rfl⟩ := he
    cases vs with
    | nil => simp at hl
    | cons v vs =>
      have hv0 := hv 0 v rfl
      rw [Nat.add_zero] at hv0
      obtain ⟨r2, a2⟩ := outA_rel hgh (fun z hm => hz z (by simp [hm])) (fun n hm => hn n (by simp [hm])) e2 (vs := vs) (by simpa using hl) (fun i u hu => by
        have := hv (i + 1) u (by simpa using hu)
        rwa [show j + (i + 1) = j + 1 + i from by omega] at this)
      have r1 : RelR h w o v (n1.flatMap (blkOf β)) ∧ ∀ n ∈ n1, Alone f1 n := by
        rcases e1 with ⟨rfl, rfl, _⟩ | e1
        · exact ⟨rfl, by simp⟩
        · exact outR_rel hs hrow hcell (fun z hm => hz z (by simp [hm])) (fun n hm => hn n (by simp [hm])) e1 (hv0 ▸ hgh j)
      exact ⟨⟨_, _, r1.1, r2, by simp⟩, fun n hm => by rcases List.mem_append.1 hm with q | q; exact r1.2 n q; exact a2 n q⟩
end
theorem results_eq (fn : Func) (tmps : Array Value) : results fn tmps = (do let vs ← fn.results.mapM (resOne tmps); pure (if h : vs.size = 1 then vs[0] else .tuple vs)) := by
  unfold results
  congr 1
@[irreducible] def IsR (r : AV) (outs : List AV) (r' : AV) (outs' : List AV) : Prop := r' = r ∧ outs' = outs
theorem isR {r r' : AV} {outs outs' : List AV} (h1 : r' = r) (h2 : outs' = outs) : IsR r outs r' outs' := by unfold IsR; exact ⟨h1, h2⟩
theorem isR_elim {r r' : AV} {outs outs' : List AV} (h : IsR r outs r' outs') : r' = r ∧ outs' = outs := by unfold IsR at h; exact h
/-- From the condition to the contract. -/
theorem AC_intro (hT : TyOK P C.Γ) (hA : ∀ g ys r outs, C.ac g ys r outs → AC P C.G g ys r outs) {f : FuncId} {fn : Func} {c : Code} (hf : P.funcs[f]? = some fn) (hb : fn.body = some c) (hname : (fn.name == "runtime.NumGoroutine") = false) {keys : List Nat} {args outs : List AV} {r : AV} (hsz : args.length ≤ fn.ntmps)
    {Lp : Code → St → (XExit → St → Prop) → Prop} (hLp : ∀ c s K, Lp c s K → LpOf P C fn.ntmps c s K) (hv : vcallP C fn.ntmps Lp f c fn.results.toList keys args (IsR r outs)) : AC P C.G f args r outs := by
  refine ⟨⟨fn, hf, hname, by rw [hb]; rfl⟩, fun w h vs bs hG hon hrel hnd hnone => ?_⟩
  refine calls_of_wp hf hb ?_
  have hlen : args.length = vs.size := by have := hrel.length; simpa using this
  let E : Env := ⟨w, h, bs, fn.ntmps, fun j => vs.getD j undef⟩
  let a0 : Act := { tmps := vs ++ Array.replicate (fn.ntmps - vs.size) undef, defers := [] }
  have hin : ∀ b o, h b = some o → b < w.heap.size := fun b o hb => heap_lt (hon b o hb)
  have s0 : Sim C.G E St.zero.look h (fun _ => .none) a0 w := {
    glob := hG, on := hon, fr := Fr.refl w bs, le0 := IH.le_refl h, fresh := fun b o hb => .inl hb
    old := fun b o hb => ⟨hin b o hb, fun hm => by have q : h b = some o := hb; rw [hnone b hm] at q; cases q⟩
    size := by simp [a0, E]; omega
    defers := rfl
    tmps := fun t => by rw [zero_look]; trivial
    ghost := fun t => by rw [zero_look]; trivial
    free := fun n _ => rfl
    rows := fun n fr hn => by rw [zero_look] at hn; cases hn
    boxes := fun n sz hn => by rw [zero_look] at hn; cases hn
    inj := fun n n' b ho => by rcases ho with ⟨q, _⟩ | ⟨_, q, _⟩ <;> rw [zero_look] at q <;> cases q
    own := fun n b ho => by rcases ho with ⟨q, _⟩ | ⟨_, q, _⟩ <;> rw [zero_look] at q <;> cases q }
  obtain ⟨β1, s1⟩ := starts_ok (j := 0) s0 hrel hnd (fun b hm => ⟨hnone b hm, fun m ho => (by rcases ho with ⟨q, _⟩ | ⟨_, q, _⟩ <;> rw [zero_look] at q <;> cases q), .inl hm⟩) (fun m k _ _ => zero_look _) (fun i v hi => by
    have hi' : vs[i]? = some v := by simpa using hi
    have hlt := (Array.getElem?_eq_some_iff.1 hi').1
    refine ⟨?_, ?_⟩
    · rw [Nat.zero_add, Array.getD_eq_getD_getElem?, Array.getElem?_append_left hlt, hi']; rfl
    · simp only [E, Nat.zero_add, Array.getD_eq_getD_getElem?, hi', Option.getD_some])
  -- the beginning
  unfold vcallP startK at hv
  rw [forceW_eq, St.setsK_eq, forceV_eq] at hv
  generalize hst : St.zero.sets (startW 0 args) = st at hv
  obtain ⟨v0, t0, hp⟩ := st
  simp only at hv
  have hlook : (St.mk v0 t0 hp).look = updL St.zero.look (startW 0 args) := by rw [← hst, look_sets]
  have s2 : Sim C.G E (St.mk (keys.map fun t => (t, (St.mk v0 t0 hp).look (.tmp t))) [] hp).look h β1 a0 w := by
    refine Sim.forget (f := updL St.zero.look (startW 0 args)) s1 fun p => ?_
    rw [← hlook]
    exact look_keys _ (St.mk v0 t0 hp) (fun _ => rfl) keys p
  refine vc_ok (E := E) hT hA hLp hv s2 (fun e s' hK h' β' a' w' hs => ?_)
  have main : (retRd C f fn.results.toList args fun r outs ns zs => bif Nm.nodup ns && Nm.apart ns zs then .done [(.gh 0, .tup (r :: outs))] else .fail).wp s' [] (fun _ ws => match ws with | [(_, .tup (r' :: outs'))] => IsR r outs r' outs' | _ => False) → bodyPost P fn (fun e w' => ∃ cv h' rb ob, e = .returned cv ∧ h.le h' ∧ h'.on w' ∧ RelR h' w' r cv rb ∧ RelA h' w' outs vs.toList ob ∧ (rb ++ ob).Nodup ∧
      (∀ b ∈ rb ++ ob, h' b = none ∧ (b ∈ bs ∨ w.heap.size ≤ b)) ∧ (∀ b o, h' b = some o → h b = some o ∨ b ∈ bs ∨ w.heap.size ≤ b) ∧ Fr w w' bs) .normal a' w' := by
    intro hwp
    obtain ⟨R', ws, hK, _, hev⟩ := Rd.ev_of_wp hwp
    have hev := hev s'.look (fun _ _ => rfl)
    unfold retRd at hev
    obtain ⟨xs, us, hev, hrun, hsim⟩ := resRds_ok hT hs hev
    obtain ⟨r', ns, zs, hev, hexp⟩ := expR_ev hev
    obtain ⟨outs', ns', zs', hev, hout⟩ := outArgs_ev hev
    have hb2 := bif_c hev
    have hev := bif_t hev
    simp only [Bool.and_eq_true] at hb2
    have hws : ws = [(.gh 0, .tup (r' :: outs'))] := hev
    subst hws
    obtain ⟨rfl, rfl⟩ : r' = r ∧ outs' = outs := isR_elim hK
    have hnodup := Nm.nodup_iff.1 hb2.1
    have hapart := apart_iff hb2.2
    -- the value
    obtain ⟨cv, hcv, hval⟩ : ∃ cv, (results fn a'.tmps).run P w' = .ok cv w' ∧ SimR h' β' (oneOf xs) cv := by
      rw [results_eq, Sem.run_bind, Array.mapM_eq_mapM_toList, Sem.run_map, hrun]
      simp only [Result.andThen_ok]
      match xs, us, hsim, hexp with
      | [x], [u], hsim, _ => exact ⟨u, by simp, hsim.1⟩
      | [], [], _, _ => exact ⟨.tuple #[], by simp, #[], rfl, trivial⟩
      | x :: y :: xs, u1 :: u2 :: us, hsim, hexp =>
        obtain ⟨ys, he, _⟩ := hexp
        exact ⟨.tuple (u1 :: u2 :: us).toArray, by simp, _, rfl, simTL_of_exp he hsim⟩
      | [x], [], hsim, _ => exact hsim.elim
      | [x], _ :: _ :: _, hsim, _ => exact hsim.2.elim
      | [], _ :: _, hsim, _ => exact hsim.elim
      | _ :: _ :: _, [], hsim, _ => exact hsim.elim
      | _ :: _ :: _, [_], hsim, _ => exact hsim.2.elim
    obtain ⟨h2, hle2, s3⟩ := hs.freezes (zs := zs ++ zs') (fun z hz => by
      rcases List.mem_append.1 hz with q | q
      · exact hexp.frozen z q
      · exact hout.frozen z q)
    have hl : ∀ n ∈ ns ++ ns', updL s'.look (frW (zs ++ zs')) (.live n) = s'.look (.live n) := fun n hn => frW_live (hapart n hn)
    obtain ⟨rr, ra⟩ := relR_of s3 (frW_row _) (fun n c => frW_other (fun z _ => by simp)) (fun z hz => frW_mem (by simp [hz])) (fun n hn => hl n (by simp [hn])) hexp (hval.mono hle2 (BM.le_refl β'))
    have hgh : ∀ j, SimR h2 β' (s'.look (.gh j)) (E.gh j) := fun j => by
      have := s3.ghost j
      rwa [frW_other (fun z _ => by simp)] at this
    obtain ⟨oo, oa⟩ := outA_rel s3 (frW_row _) (fun n c => frW_other (fun z _ => by simp)) hgh (fun z hz => frW_mem (by simp [hz])) (fun n hn => hl n (by simp [hn])) hout (vs := vs.toList) (by simp; omega) (fun i v hi => by
      have hi' : vs[i]? = some v := by simpa using hi
      simp only [E, Nat.zero_add, Array.getD_eq_getD_getElem?, hi', Option.getD_some])
    have halone : ∀ n ∈ ns ++ ns', Alone (updL s'.look (frW (zs ++ zs'))) n := fun n hn => by
      rcases List.mem_append.1 hn with q | q
      · exact ra n q
      · exact oa n q
    refine ⟨hs.defers, cv, hcv, cv, h2, _, _, rfl, IH.le_trans hs.le0 hle2, s3.on, rr, oo, ?_, ?_, s3.fresh, s3.fr⟩
    · have := blks_nodup s3 hnodup halone
      rwa [List.flatMap_append] at this
    · intro b hb
      rw [← List.flatMap_append] at hb
      obtain ⟨n, hn, hbn⟩ := List.mem_flatMap.1 hb
      exact ⟨alone_none s3 (halone n hn) hbn, s3.own n b (own_of_blk s3 (halone n hn) hbn)⟩
  cases e with
  | normal => exact main hK
  | exit i => exact hK.elim
  | ret => exact main hK
end
end Go.Proofs.YtaklcemgpinleaaDoor
