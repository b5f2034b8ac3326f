/- Each operation does to a fitting state what the layer says: the operations that call nothing. -/
import Derived.Test.YtaklcemgpinleaaDoorCr6
import Derived.Laws.StructEq
namespace Go.Proofs.YtaklcemgpinleaaDoor
open Go
set_option linter.unusedSimpArgs false
set_option linter.unusedVariables false
set_option linter.unnecessarySimpa false
set_option linter.unusedSectionVars false

section
variable {f : LF} {ws : Ws} {C : Cx} {P : Program} {E : Env}
/-- What the layer says of an operation holds of the machine's. -/
def OpOK (P : Program) (G : Nat → Option Rows) (E : Env) (o : Oper) (f : LF) (ws : Ws) : Prop :=
  ∀ {h β a w}, Sim G E f h β a w → ∀ (K : Act → World → Prop) (Q : Exit → Act → World → Prop), (∀ h' β' a' w', Sim G E (updL f ws) h' β' a' w' → K a' w') → o.wp P a w K Q
theorem OpOK.mk {G : Nat → Option Rows} {o : Oper} (H : ∀ {h β a w}, Sim G E f h β a w → ∃ v h' β' w', (execOp a.eval o).run P w = .ok (.value v) w' ∧ Sim G E (updL f ws) h' β' (a.put o.dst v) w') : OpOK P G E o f ws := by
  intro h β a w hs K Q hK
  obtain ⟨v, h', β', w', h1, h2⟩ := H hs
  unfold Oper.wp; rw [h1]
  exact hK _ _ _ _ h2
theorem OpOK.mkS {G : Nat → Option Rows} {o : Oper} (H : ∀ {h β a w}, Sim G E f h β a w → ∃ h' β' w', (execOp a.eval o).run P w = .ok .skip w' ∧ Sim G E (updL f ws) h' β' (a.put o.dst undef) w') : OpOK P G E o f ws := by
  intro h β a w hs K Q hK
  obtain ⟨h', β', w', h1, h2⟩ := H hs
  unfold Oper.wp; rw [h1]
  exact hK _ _ _ _ h2
theorem fin_ev {N : Nat} {o : Oper} {x : AV} {ws0 : Ws} (hev : (fin N o x ws0).ev f ws) : (∃ d, o.dst = some d ∧ d < N ∧ ws = ws0 ++ [(.tmp d, x)]) ∨ (o.dst = none ∧ ws = ws0) := by
  unfold fin at hev
  split at hev
  · rename_i d hd
    obtain ⟨h1, h2⟩ := bif_fail_ev hev
    exact .inl ⟨d, hd, by simpa [Nat.blt_eq] using h1, h2⟩
  · rename_i hd; exact .inr ⟨hd, hev⟩
theorem fin_ok {G : Nat → Option Rows} {o : Oper} {x : AV} {v : Value} {ws0 : Ws} {h : IH} {β : BM} {a : Act} {w : World} (hev : (fin E.N o x ws0).ev f ws) (hs : Sim G E (updL f ws0) h β a w) (hv : SimR h β x v) : Sim G E (updL f ws) h β (a.put o.dst v) w := by
  rcases fin_ev hev with ⟨d, hd, hlt, rfl⟩ | ⟨hd, rfl⟩
  · rw [updL_append, hd]; exact hs.put hlt hv
  · rw [hd]; exact hs

/-! ## Operands -/
theorem zeroC_sim {x : AV} {v : Value} (hz : zeroC x v = true) (h : IH) (β : BM) : SimC h β (treeCell x) v := by
  unfold zeroC at hz
  split at hz
  · simp only [Bool.and_eq_true, decide_eq_true_eq] at hz; obtain ⟨rfl, rfl⟩ := hz; exact .v rfl
  · simp only [beq_iff_eq] at hz; subst hz; exact .v rfl
  · rename_i x y
    simp only [Bool.and_eq_true] at hz
    have : x = y := by
      cases x; cases y
      simp only [Array.isEmpty_iff] at hz
      rw [hz.1, hz.2]
    subst this; exact .v rfl
  · exact .nil
  · cases hz
theorem zeroC_rel {x : AV} {v : Value} (hz : zeroC x v = true) (h : IH) (w : World) : RelC h w x v [] := by
  unfold zeroC at hz
  split at hz
  · simp only [Bool.and_eq_true, decide_eq_true_eq] at hz; obtain ⟨rfl, rfl⟩ := hz; exact ⟨.v rfl, rfl⟩
  · simp only [beq_iff_eq] at hz; subst hz; exact ⟨.v rfl, rfl⟩
  · rename_i x y
    simp only [Bool.and_eq_true] at hz
    have : x = y := by
      cases x; cases y
      simp only [Array.isEmpty_iff] at hz
      rw [hz.1, hz.2]
    subst this; exact ⟨.v rfl, rfl⟩
  · exact .inl ⟨rfl, rfl, rfl⟩
  · cases hz
theorem zeroL_sim : ∀ {xs : List AV} {vs : List Value}, zeroL xs vs = true → ∀ (h : IH) (β : BM), SimL h β (xs.map treeCell) vs
  | [], [], _, _, _ => trivial
  | x :: xs, v :: vs, hz, h, β => by
    simp only [zeroL, Bool.and_eq_true] at hz
    exact ⟨zeroC_sim hz.1 h β, zeroL_sim hz.2 h β⟩
  | [], _ :: _, hz, _, _ => by simp [zeroL] at hz
  | _ :: _, [], hz, _, _ => by simp [zeroL] at hz
theorem zeroL_rel : ∀ {xs : List AV} {vs : List Value}, zeroL xs vs = true → ∀ (h : IH) (w : World), RelL h w xs vs []
  | [], [], _, _, _ => rfl
  | x :: xs, v :: vs, hz, h, w => by
    simp only [zeroL, Bool.and_eq_true] at hz
    exact ⟨[], [], zeroC_rel hz.1 h w, zeroL_rel hz.2 h w, rfl⟩
  | [], _ :: _, hz, _, _ => by simp [zeroL] at hz
  | _ :: _, [], hz, _, _ => by simp [zeroL] at hz
theorem ofVal_shape (C : Cx) (T : Nat) (x : Value) : ofVal C T x = .undef ∨ (∃ k, ofVal C T x = .vec k [] ∧ x = .slice none 0 0) ∨ (∃ zs cs, ofVal C T x = .agg zs ∧ x = .agg cs ∧ zeroL zs cs.toList = true) ∨ (ofVal C T x = .t (.v x) ∧ scalar x = true) := by
  unfold ofVal
  split
  · split
    · exact .inr (.inl ⟨_, rfl, rfl⟩)
    · exact .inl rfl
  · rename_i cs
    split
    · rename_i zs _
      cases hz : zeroL zs cs.toList
      · exact .inl rfl
      · exact .inr (.inr (.inl ⟨zs, cs, rfl, rfl, hz⟩))
    · exact .inl rfl
  · exact .inr (.inr (.inr ⟨rfl, rfl⟩))
  · exact .inr (.inr (.inr ⟨rfl, rfl⟩))
  · exact .inr (.inr (.inr ⟨rfl, rfl⟩))
  · exact .inl rfl
theorem ofVal_rel (C : Cx) (T : Nat) (x : Value) (h : IH) (w : World) : RelT h w (ofVal C T x) x [] := by
  rcases ofVal_shape C T x with e | ⟨k, e, hx⟩ | ⟨zs, cs, e, hx, hz⟩ | ⟨e, hx⟩ <;> rw [e]
  · exact (rfl : ([] : List Nat) = [])
  · exact .inl ⟨rfl, hx, rfl⟩
  · exact ⟨cs, hx, zeroL_rel hz h w⟩
  · exact ⟨.v hx, rfl⟩
theorem opd_ev {T : Nat} {x : Operand} {k : AV → Rd} (hev : (opd C T x k).ev f ws) : ∃ av, (k av).ev f ws ∧ ∀ {G E h β a w}, Sim G E f h β a w → SimR h β av (a.eval x) := by
  cases x with
  | tmp t => exact ⟨_, hev, fun hs => hs.tmps t⟩
  | global g => exact ⟨_, hev, fun _ => rfl⟩
  | func g => exact ⟨_, hev, fun _ => ⟨#[], rfl, trivial⟩⟩
  | const x =>
    simp only [opd] at hev
    rcases ofVal_shape C T x with e | ⟨k', e, hx⟩ | ⟨zs, cs, e, hx, hz⟩ | ⟨e, hx⟩ <;> rw [e] at hev
    · exact ⟨_, hev, fun _ => trivial⟩
    · subst hx; exact ⟨_, hev, fun _ => Rep.nil⟩
    · subst hx; exact ⟨_, hev, fun _ => ⟨cs, rfl, zeroL_sim hz _ _⟩⟩
    · exact ⟨_, hev, fun _ => Rep.v hx⟩
/-- writes to memory alone -/
def Memo (ws : Ws) : Prop := ∀ x ∈ ws, ∀ t, x.1 ≠ .tmp t
theorem impT_memo (n : Nm) (x : AV) : Memo (impT n x).2 := by
  intro y hy t
  obtain ⟨p, z⟩ := y
  rcases impT_names hy with q | q | ⟨c, q⟩ | ⟨c, q | q⟩ <;> simp [q]
theorem opdI_ev {T : Nat} {n : Nm} {x : Operand} {k : AV → Ws → Rd} (hev : (opdI C n T x k).ev f ws) : ∃ av ws0, (k av ws0).ev f ws ∧ Memo ws0 ∧ (∀ m z, (Pl.live m, z) ∈ ws0 → f (.live m) = .undef ∧ (m = n ∨ ∃ c, m = .sub n c)) ∧
    ∀ {G E h β a w}, Sim G E f h β a w → ∃ β', Took G E f h β a w (updL f ws0) β' [] ∧ SimR h β' av (a.eval x) := by
  have plain : ∀ {x : Operand}, (∀ v, x ≠ .const v) → (opdI C n T x k).ev f ws → ∃ av ws0, (k av ws0).ev f ws ∧ Memo ws0 ∧ (∀ m z, (Pl.live m, z) ∈ ws0 → f (.live m) = .undef ∧ (m = n ∨ ∃ c, m = .sub n c)) ∧
      ∀ {G E h β a w}, Sim G E f h β a w → ∃ β', Took G E f h β a w (updL f ws0) β' [] ∧ SimR h β' av (a.eval x) := by
    intro x hx hev
    have : (opd C T x fun a => k a []).ev f ws := by cases x <;> first | exact hev | exact absurd rfl (hx _)
    obtain ⟨av, h1, h2⟩ := opd_ev this
    exact ⟨av, [], h1, (fun y hy => by simp at hy), (fun m z hy => by simp at hy), fun hs => ⟨_, Took.refl hs, h2 hs⟩⟩
  cases x with
  | const x =>
    obtain ⟨h1, h2⟩ := fresh_ev hev
    refine ⟨_, _, h1, impT_memo _ _, fun m z hm => ⟨h2 m z hm, sub_of_names hm rfl⟩, fun hs => ?_⟩
    · obtain ⟨β', t, s⟩ := impT_ok (n := n) hs (ofVal_rel C T x _ _) (by simp) (by simp) h2
      refine ⟨β', t, ?_⟩
      rcases ofVal_shape C T x with e | ⟨k', e, hx⟩ | ⟨zs, cs, e, hx, hz⟩ | ⟨e, hx⟩ <;> rw [e] at s ⊢ <;> exact s
  | tmp t => exact plain (by simp) hev
  | global g => exact plain (by simp) hev
  | func g => exact plain (by simp) hev
theorem opds_ev : ∀ {os : List Operand} {Ts : List Nat} {k : List AV → Rd}, (opds C os Ts k).ev f ws → ∃ avs, (k avs).ev f ws ∧ ∀ {G E h β a w}, Sim G E f h β a w → SimA h β avs (os.map a.eval)
  | [], _, k, hev => ⟨[], by cases ‹List Nat› <;> exact hev, fun _ => trivial⟩
  | o :: os, [], k, hev => (fail_ev.1 hev).elim
  | o :: os, T :: Ts, k, hev => by
    obtain ⟨av, h1, h2⟩ := opd_ev hev
    obtain ⟨avs, h3, h4⟩ := opds_ev h1
    exact ⟨av :: avs, h3, fun hs => ⟨h2 hs, h4 hs⟩⟩

/-! ## The operations -/
theorem ok_move {o : Oper} {me : Nm} {x : Operand} (hop : o.op = .move x ∨ o.op = .assign x) (hev : (opdI C me o.type x fun a ws => fin E.N o a ws).ev f ws) : OpOK P C.G E o f ws := by
  obtain ⟨av, ws0, h1, _, _, h2⟩ := opdI_ev hev
  refine OpOK.mk fun {h β a w} hs => ?_
  obtain ⟨β', t, s⟩ := h2 hs
  refine ⟨a.eval x, h, β', w, ?_, fin_ok h1 t.sim s⟩
  rcases hop with e | e <;> simp [execOp, e]
theorem asI_ev {x : AV} {k : Int → Rd} (hev : (asI x k).ev f ws) : ∃ n, x = I n ∧ (k n).ev f ws := by
  unfold asI at hev; split at hev
  · exact ⟨_, rfl, hev⟩
  · exact (fail_ev.1 hev).elim
theorem simI {h : IH} {β : BM} {n : Int} {v : Value} (hv : SimR h β (I n) v) : v = .int .i64 n := by
  have : Rep h (.v (.int .i64 n)) v := hv
  cases this; rfl
theorem simV {h : IH} {β : BM} {x v : Value} (hv : SimR h β (.t (.v x)) v) : v = x ∧ scalar x = true := by
  have : Rep h (.v x) v := hv
  cases this with | v hx => exact ⟨rfl, hx⟩
theorem ok_pick {o : Oper} {c x y : Operand} (hop : o.op = .pick c x y) (hev : (opd C 0 c fun | .t (.v (.bool t)) => .br t (opd C o.type x fun a => fin E.N o a []) (opd C o.type y fun a => fin E.N o a []) | _ => .fail).ev f ws) : OpOK P C.G E o f ws := by
  obtain ⟨av, h1, h2⟩ := opd_ev hev
  split at h1
  · rename_i t
    refine OpOK.mk fun {h β a w} hs => ?_
    have hc := (simV (h2 hs)).1
    rcases h1 with ⟨ht, h1⟩ | ⟨ht, h1⟩
    · obtain ⟨av, h3, h4⟩ := opd_ev h1
      exact ⟨a.eval x, h, β, w, by simp [execOp, hop, hc, asBool, ht], fin_ok h3 hs (h4 hs)⟩
    · obtain ⟨av, h3, h4⟩ := opd_ev h1
      exact ⟨a.eval y, h, β, w, by simp [execOp, hop, hc, asBool, ht], fin_ok h3 hs (h4 hs)⟩
  · exact (fail_ev.1 h1).elim
theorem ok_unOp {o : Oper} {op : UnOp} {T : Nat} {x : Operand} (hev : (opd C o.type x fun a => match op, a with
    | .not, .t (.v (.bool b)) => fin E.N o (B (!b)) []
    | .neg, .t (.v (.int K n)) => fin E.N o (.t (.v (.int K (K.wrap (0 - n))))) []
    | _, _ => .fail).ev f ws) (hop : o.op = .unOp op T x) : OpOK P C.G E o f ws := by
  obtain ⟨av, h1, h2⟩ := opd_ev hev
  refine OpOK.mk fun {h β a w} hs => ?_
  split at h1
  · rename_i b
    have hc := (simV (h2 hs)).1
    exact ⟨.bool (!b), h, β, w, by simp [execOp, hop, hc, Op.unary], fin_ok h1 hs (Rep.v rfl)⟩
  · rename_i K n
    have hc := (simV (h2 hs)).1
    exact ⟨.int K (K.wrap (0 - n)), h, β, w, by simp [execOp, hop, hc, Op.unary, Op.intArith], fin_ok h1 hs (Rep.v rfl)⟩
  · exact (fail_ev.1 h1).elim
theorem ok_extract {o : Oper} {x : Operand} {i : Nat} (hop : o.op = .extract x i) (hev : (opd C 0 x fun a => match a with
    | .tup vs => match vs[i]? with | some y => fin E.N o y [] | none => .fail
    | _ => .fail).ev f ws) : OpOK P C.G E o f ws := by
  obtain ⟨av, h1, h2⟩ := opd_ev hev
  refine OpOK.mk fun {h β a w} hs => ?_
  split at h1
  · rename_i as
    split at h1
    · rename_i y hy
      obtain ⟨vs, e1, e2⟩ := h2 hs
      have : ∀ {as : List AV} {vs : List Value} {i : Nat}, SimTL h β as vs → ∀ y, as[i]? = some y → ∃ v, vs[i]? = some v ∧ SimT h β y v := by
        intro as
        induction as with
        | nil => intro vs i _ y hy; simp at hy
        | cons x xs ih =>
          intro vs i hv y hy
          cases vs with
          | nil => exact hv.elim
          | cons v vs =>
            cases i with
            | zero => simp at hy; subst hy; exact ⟨v, rfl, hv.1⟩
            | succ i => simpa using ih hv.2 y (by simpa using hy)
      obtain ⟨v, q1, q2⟩ := this e2 y hy
      have q1' : vs[i]? = some v := by simpa using q1
      refine ⟨v, h, β, w, by simp [execOp, hop, e1, Instr.extract, q1'], fin_ok h1 hs ?_⟩
      cases y <;> first | exact q2 | exact q2.elim
    · exact (fail_ev.1 h1).elim
  · exact (fail_ev.1 h1).elim
theorem intKind_eq {a b : IntKind} (h : IntKind.eq a b = true) : a = b := by cases a <;> cases b <;> first | rfl | simp [IntKind.eq] at h
theorem max_i64 : IntKind.i64.max = 9223372036854775807 := by decide
theorem run_abin {P : Program} {w : World} {tb : Bool} {op : BinOp} {T : Nat} {x y : Value} {k : AV → Rd} (htb : tb = true → P.underlying T = some .bool) (hev : (abin tb op x y k).ev f ws) :
    ∃ r, (k (.t (.v r))).ev f ws ∧ scalar r = true ∧ ∀ {X Y : Operand}, (do eqGuard op T X Y x y; binOp op T x y : Sem Value).run P w = .ok r w := by
  unfold abin at hev
  split at hev
  · rename_i K a K' b
    obtain ⟨hk, h1⟩ := bif_fail_ev hev
    clear hev
    have hev := h1
    clear h1
    have := intKind_eq hk; subst this
    have hg : ∀ {X Y : Operand}, (eqGuard op T X Y (.int K a) (.int K b)).run P w = .ok () w := by intro X Y; cases op <;> rfl
    cases op <;> simp only [bitsOf] at hev <;> first
      | exact (fail_ev.1 hev).elim
      | exact ⟨_, hev, rfl, by intro X Y; simp [hg, binOp, Op.intArith, Op.intCmp, Op.intBits]⟩
      | exact ⟨_, hev.2, rfl, by intro X Y; simp [hg, binOp, Op.intDiv, hev.1]⟩
  · rename_i a b
    have hg : ∀ {X Y : Operand}, (eqGuard op T X Y (.string a) (.string b)).run P w = .ok () w := by intro X Y; cases op <;> rfl
    cases op <;> simp only at hev <;> first
      | exact (fail_ev.1 hev).elim
      | exact ⟨_, hev, rfl, by intro X Y; simp [hg, binOp, Op.stringOp]⟩
      | (refine ⟨_, hev.2, rfl, ?_⟩
         intro X Y
         have h1 : ¬ (((a.size + b.size : Nat) : Int) > IntKind.i64.max) := by rw [max_i64]; have := hev.1; omega
         simp only [Sem.run_bind, hg, Result.andThen_ok, binOp, Op.stringOp]
         rw [if_neg h1]; rfl)
  · rename_i a b
    obtain ⟨hb, h1⟩ := bif_fail_ev hev
    clear hev
    have hev := h1
    clear h1
    have hu := htb hb
    have hg : ∀ {X Y : Operand}, (eqGuard op T X Y (.bool a) (.bool b)).run P w = .ok () w := by intro X Y; cases op <;> rfl
    cases op <;> simp only at hev <;> first
      | exact (fail_ev.1 hev).elim
      | exact ⟨_, hev, rfl, by intro X Y; simp only [Sem.run_bind, hg, Result.andThen_ok]; first | exact run_eql_bool w T a b hu | exact run_neq_bool w T a b hu⟩
  · exact (fail_ev.1 hev).elim
theorem cmpInts_ok {P : Program} {h : IH} {β : BM} {w : World} {d : Nat} {xs ys : Array Value} : ∀ {as bs : List AV} {fs : List Field} {j : Nat} {r : Bool}, cmpInts as bs = some r → SimL h β as (xs.toList.drop j) → SimL h β bs (ys.toList.drop j) → fs.length = as.length →
    (∀ (i : Nat) (x : Field), fs[i]? = some x → x.offset = j + i ∧ x.name ≠ "_" ∧ ∃ K, P.underlying x.type = some (.int K)) → (Op.eqFields (d + 1) xs ys fs).run P w = .ok r w
  | [], [], [], j, r, hc, _, _, _, _ => by simp [cmpInts] at hc; subst hc; rfl
  | a :: as, b :: bs, x :: fs, j, r, hc, hx, hy, hl, hf => by
    unfold cmpInts at hc
    split at hc
    · rename_i heq _; simp at heq
    · rename_i as' bs' K a' as'' K' b' bs'' e1 e2
      simp only [List.cons.injEq] at e1 e2
      obtain ⟨rfl, rfl⟩ := e1; obtain ⟨rfl, rfl⟩ := e2
      cases hk : IntKind.eq K K'
      · simp [hk] at hc
      · simp only [hk, cond_true] at hc
        have := intKind_eq hk; subst this
        cases hr : cmpInts as bs with
        | none => simp [hr] at hc
        | some r' =>
          simp only [hr, Option.some.injEq] at hc; subst hc
          obtain ⟨o1, o2, K', o3⟩ := hf 0 x rfl
          have get : ∀ {zs : Array Value} {n : Int} {as : List AV}, SimL h β (.t (.v (.int K n)) :: as) (zs.toList.drop j) → zs[j]? = some (.int K n) ∧ SimL h β as (zs.toList.drop (j + 1)) := by
            intro zs n as hz
            cases hd : zs.toList.drop j with
            | nil => rw [hd] at hz; exact hz.elim
            | cons z rest =>
              rw [hd] at hz
              have h1 : zs.toList[j]? = some z := by have := congrArg (·[0]?) hd; simpa [List.getElem?_drop] using this
              have h2 : zs.toList.drop (j + 1) = rest := by have := congrArg (List.drop 1) hd; simpa [List.drop_drop, Nat.add_comm] using this
              have h3 : Rep h (.v (.int K n)) z := hz.1
              cases h3
              exact ⟨by simpa using h1, by rw [h2]; exact hz.2⟩
          obtain ⟨g1, g2⟩ := get hx
          obtain ⟨g3, g4⟩ := get hy
          have ih := cmpInts_ok (w := w) (d := d) hr g2 g4 (by simpa using hl) (fun i y hy => by
            obtain ⟨p1, p2⟩ := hf (i + 1) y (by simpa using hy)
            exact ⟨by rw [p1]; omega, p2⟩)
          have hp : ∀ {zs : Array Value} {n : Int}, zs[j]? = some (.int K n) → (part x.type zs x.offset).run P w = .ok (.int K n) w := by
            intro zs n hz
            simp [part, isAgg, run_underlying o3, o1, hz]
          simp only [Op.eqFields, o2, ne_eq, not_false_eq_true, if_true, Sem.run_bind, hp g1, hp g3, Result.andThen_ok, run_equalIn_int w d x.type K K' _ _ o3]
          cases hab : (a' == b')
          · simp
          · simpa using ih
    · cases hc
  | [], [], _ :: _, _, _, _, _, _, hl, _ => by simp at hl
  | _ :: _, _, [], _, _, _, _, _, hl, _ => by simp at hl
  | [], _ :: _, _, _, _, hc, _, _, _, _ => by simp [cmpInts] at hc
  | _ :: _, [], _, _, _, hc, _, _, _, _ => by simp [cmpInts] at hc
theorem isB_under (hT : TyOK P C.Γ) {T : Nat} (hb : (C.Γ T).isB = true) : P.underlying T = some .bool := by
  unfold TI.isB at hb
  split at hb
  · rename_i h1 h2
    obtain ⟨i, d, _, q2, _, _, q5⟩ := (hT.facts (T := T) (fun q => by rw [q] at h1; simp [dfltTI] at h1)).main
    simp only [DescOK, h1, h2] at q5
    rw [q2, q5]
  · cases hb
theorem run_v {P : Program} {s : Sem Value} {w w' : World} {r : Value} (h : s.run P w = .ok r w') : (do pure (Next.value (← s)) : Sem Next).run P w = .ok (.value r) w' := by
  rw [Sem.run_bind, h]; rfl
theorem run_u {P : Program} {s : Sem Unit} {w w' : World} (h : s.run P w = .ok () w') : (do s; pure Next.skip : Sem Next).run P w = .ok .skip w' := by
  rw [Sem.run_bind, h]; rfl
theorem ok_binOp (hT : TyOK P C.Γ) {o : Oper} {op : BinOp} {T yT : Nat} {x y : Operand} (hev0 : (opd C T x fun a => opd C yT y fun b => match a, b with
    | .t (.v a), .t (.v b) => abin (C.Γ T).isB op a b fun r => fin E.N o r []
    | .agg xs, .agg ys => bif (C.Γ T).ints && Nat.beq xs.length (C.Γ T).size then match op, cmpInts xs ys with
      | .eql, some r => fin E.N o (B r) []
      | .neq, some r => fin E.N o (B (!r)) []
      | _, _ => .fail
      else .fail
    | _, _ => .fail).ev f ws) (hop : o.op = .binOp op T x y yT) : OpOK P C.G E o f ws := by
  obtain ⟨av, hev1, h2⟩ := opd_ev hev0
  obtain ⟨bv, hev, h4⟩ := opd_ev hev1
  clear hev0 hev1
  refine OpOK.mk fun {h β a w} hs => ?_
  split at hev
  · have e1 := (simV (h2 hs)).1
    have e2 := (simV (h4 hs)).1
    obtain ⟨r, q1, q2, q3⟩ := run_abin (P := P) (w := w) (isB_under hT) hev
    refine ⟨r, h, β, w, ?_, fin_ok q1 hs (Rep.v q2)⟩
    simp only [execOp, hop, e1, e2]
    exact run_v q3
  · rename_i as bs
    obtain ⟨hb, hev2⟩ := bif_fail_ev hev
    clear hev
    simp only [Bool.and_eq_true] at hb
    obtain ⟨xs, e1, s1⟩ := h2 hs
    obtain ⟨ys, e2, s2⟩ := h4 hs
    have hF := hT.facts (T := T) (fun q => by
      have := hb.1; rw [q] at this; simp [dfltTI] at this)
    obtain ⟨fields, u1, u2, u3, u4, u5⟩ := hF.ints hb.1
    have hlen := Nat.eq_of_beq_eq_true hb.2
    have hfo : P.fieldsOf T = fields := by simp [Program.fieldsOf, u1]
    have run : ∀ {r}, cmpInts as bs = some r → (Op.equalIn 10000 T (.agg xs) (.agg ys)).run P w = .ok r w := fun {r} hr => by
      rw [run_equalIn_struct w 9999 T xs ys (by rw [hfo]; exact u1) u4, hfo]
      refine cmpInts_ok (d := 9998) (j := 0) hr (by simpa using s1) (by simpa using s2) (by simp [u2, hlen]) (fun i x hx => ?_)
      obtain ⟨p1, p2, K, p3, _⟩ := u3 i x (by simpa using hx)
      exact ⟨by rw [p1]; simp, p2, K, p3⟩
    split at hev2
    · rename_i r hr
      refine ⟨.bool r, h, β, w, ?_, fin_ok hev2 hs (Rep.v rfl)⟩
      simp only [execOp, hop, e1, e2]
      refine run_v ?_
      simp only [Sem.run_bind, run_eqGuard_agg w .eql T x y xs ys u5, Result.andThen_ok, run_eql_struct, run hr]
    · rename_i r hr
      refine ⟨.bool (!r), h, β, w, ?_, fin_ok hev2 hs (Rep.v rfl)⟩
      simp only [execOp, hop, e1, e2]
      refine run_v ?_
      simp only [Sem.run_bind, run_eqGuard_agg w .neq T x y xs ys u5, Result.andThen_ok, run_neq_struct, run hr]
    · exact (fail_ev.1 hev2).elim
  · exact (fail_ev.1 hev).elim
end
end Go.Proofs.YtaklcemgpinleaaDoor
