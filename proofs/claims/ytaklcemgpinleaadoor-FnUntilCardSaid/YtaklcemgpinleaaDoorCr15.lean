/- Each operation does to a fitting state what the layer says: calls; and all of them together. -/
import Derived.Test.YtaklcemgpinleaaDoorCr14
namespace Go.Proofs.YtaklcemgpinleaaDoor
open Go
set_option linter.unusedSimpArgs false
set_option linter.unusedVariables false
set_option linter.unnecessarySimpa false
set_option linter.unusedSectionVars false

section
variable {f : LF} {ws : Ws} {C : Cx} {P : Program} {E : Env} {h : IH} {β : BM} {a : Act} {w : World}
theorem ExpC.frozen {x y : AV} {ns zs : List Nm} (he : ExpC f x y ns zs) : ∀ z ∈ zs, ∃ fr, f (.live z) = .lrow fr := by
  cases x with
  | t x => obtain ⟨_, _, rfl⟩ := he; simp
  | own n e =>
    obtain ⟨fr, k, rows, e1, _, e3⟩ := he
    rcases e3 with ⟨_, _, _, rfl⟩ | ⟨_, _, rfl⟩
    · simp
    · intro z hz; simp at hz; subst hz; exact ⟨fr, e1⟩
  | part n e i len =>
    obtain ⟨fr, k, rows, e1, _, e3⟩ := he
    rcases e3 with ⟨_, _, _, rfl⟩ | ⟨_, _, rfl⟩
    · simp
    · intro z hz; simp at hz; subst hz; exact ⟨fr, e1⟩
  | _ => exact he.elim
theorem ExpL.frozen : ∀ {xs ys : List AV} {ns zs : List Nm}, ExpL f xs ys ns zs → ∀ z ∈ zs, ∃ fr, f (.live z) = .lrow fr
  | [], _, _, _, he => by obtain ⟨_, _, rfl⟩ := he; simp
  | x :: xs, ys, ns, zs, he => by
    obtain ⟨y, ys', n1, n2, z1, z2, e1, e2, _, _, rfl⟩ := he
    intro z hz
    rcases List.mem_append.1 hz with q | q
    · exact e1.frozen z q
    · exact ExpL.frozen e2 z q
theorem ExpT.frozen {x y : AV} {ns zs : List Nm} (he : ExpT f x y ns zs) : ∀ z ∈ zs, ∃ fr, f (.live z) = .lrow fr := by
  cases x with
  | agg cs => obtain ⟨ys, he, _⟩ := he; exact he.frozen
  | ptr n c =>
    cases c with
    | zero => obtain ⟨_, _, _, _, he, _⟩ := he; exact he.frozen
    | succ c => simp only [ExpT] at he; exact he.frozen
  | _ => simp only [ExpT] at he; exact he.frozen
theorem ExpTL.frozen : ∀ {xs ys : List AV} {ns zs : List Nm}, ExpTL f xs ys ns zs → ∀ z ∈ zs, ∃ fr, f (.live z) = .lrow fr
  | [], _, _, _, he => by obtain ⟨_, _, rfl⟩ := he; simp
  | x :: xs, ys, ns, zs, he => by
    obtain ⟨y, ys', n1, n2, z1, z2, e1, e2, _, _, rfl⟩ := he
    intro z hz
    rcases List.mem_append.1 hz with q | q
    · exact e1.frozen z q
    · exact ExpTL.frozen e2 z q
theorem ExpR.frozen {x y : AV} {ns zs : List Nm} (he : ExpR f x y ns zs) : ∀ z ∈ zs, ∃ fr, f (.live z) = .lrow fr := by
  cases x with
  | fn g cs => obtain ⟨ys, he, _⟩ := he; exact he.frozen
  | tup cs => obtain ⟨ys, he, _⟩ := he; exact he.frozen
  | _ => simp only [ExpR] at he; exact he.frozen
theorem ExpA.frozen : ∀ {xs ys : List AV} {ns zs : List Nm}, ExpA f xs ys ns zs → ∀ z ∈ zs, ∃ fr, f (.live z) = .lrow fr
  | [], _, _, _, he => by obtain ⟨_, _, rfl⟩ := he; simp
  | x :: xs, ys, ns, zs, he => by
    obtain ⟨y, ys', n1, n2, z1, z2, e1, e2, _, _, rfl⟩ := he
    intro z hz
    rcases List.mem_append.1 hz with q | q
    · exact e1.frozen z q
    · exact ExpA.frozen e2 z q
theorem SimA.mono {h' : IH} {β' : BM} (hle : h.le h') (hb : BM.le β β') : ∀ {xs : List AV} {vs : List Value}, SimA h β xs vs → SimA h' β' xs vs
  | [], [], _ => trivial
  | _ :: _, _ :: _, hs => ⟨hs.1.mono hle hb, SimA.mono hle hb hs.2⟩
  | [], _ :: _, hs => hs.elim
  | _ :: _, [], hs => hs.elim
theorem SimA.append_TL : ∀ {xs ys : List AV} {vs us : List Value}, SimA h β xs vs → SimTL h β ys us → SimA h β (xs ++ ys) (vs ++ us)
  | [], [], [], [], _, _ => trivial
  | [], y :: ys, [], u :: us, _, hu => ⟨by have := hu.1; cases y <;> first | exact this | exact this.elim, SimA.append_TL (xs := []) (vs := []) trivial hu.2⟩
  | x :: xs, ys, v :: vs, us, hv, hu => ⟨hv.1, SimA.append_TL hv.2 hu⟩
  | [], _, _ :: _, _, hv, _ => hv.elim
  | _ :: _, _, [], _, hv, _ => hv.elim
  | [], [], [], _ :: _, _, hu => hu.elim
  | [], _ :: _, [], [], _, hu => hu.elim
theorem apart_iff : ∀ {ns zs : List Nm}, Nm.apart ns zs = true → ∀ n ∈ ns, n ∉ zs
  | [], _, _, n, hn => by simp at hn
  | m :: ns, zs, ha, n, hn => by
    simp only [Nm.apart, Bool.and_eq_true, Bool.not_eq_true'] at ha
    rcases List.mem_cons.1 hn with e | e
    · subst e; intro q; have := Nm.mem_iff.2 q; rw [this] at ha; cases ha.1
    · exact apart_iff ha.2 n e
theorem run_callFunc {g : FuncId} (hP : Has P g) (vs : Array Value) : (callFunc g vs).run P w = .ok (.enter g vs) w := by
  obtain ⟨fn, h1, h2, h3⟩ := hP
  have h2' : ¬ (fn.name == "runtime.NumGoroutine") = true := by rw [h2]; simp
  have h3' : ¬ fn.body.isNone = true := by rw [h3]; simp
  simp only [callFunc, Sem.run_bind, run_program, Result.andThen_ok, h1]
  rw [if_neg h2', if_neg h3']
  rfl
theorem GOK.mono {G : Nat → Option Rows} {h h' : IH} (hg : GOK G h) (hle : h.le h') : GOK G h' := fun g rows q => by
  obtain ⟨cs, T, fr, h1, h3, h2⟩ := hg g rows q
  exact ⟨cs, T, fr, hle _ _ h1, h3, h2.mono hle⟩
theorem ok_call (hA : ∀ g ys r outs, C.ac g ys r outs → AC P C.G g ys r outs) {o : Oper} {me : Nm} {fo : Operand} {args : Array Operand} {argTypes : Array TypeId} (hev : (opd C 0 fo fun g => opds C args.toList argTypes.toList fun xs => acall C E.N me o g xs).ev f ws) (hop : o.op = .call { callee := .value fo, args, argTypes }) : OpOK P C.G E o f ws := by
  obtain ⟨fv, hev1, hf⟩ := opd_ev hev
  obtain ⟨avs, hev2, h2⟩ := opds_ev hev1
  clear hev hev1
  unfold acall at hev2
  split at hev2 <;> try exact (fail_ev.1 hev2).elim
  rename_i g caps
  obtain ⟨ys, ns, zs, hev3, hexp⟩ := expArgs_ev hev2
  have hb := bif_c hev3
  have hev4 := bif_t hev3
  obtain ⟨r, outs, hac, hev5⟩ := hev4
  obtain ⟨bk, im, hev6, hback⟩ := backArgs_ev hev5
  have hnd := Nm.nodup_iff.1 (bif_c hev6)
  obtain ⟨hev7, hfresh⟩ := fresh_ev (bif_t hev6)
  clear hev2 hev3 hev5 hev6
  simp only [Bool.and_eq_true] at hb
  have hnodup := Nm.nodup_iff.1 hb.1
  have hapart := apart_iff hb.2
  obtain ⟨hHas, hcon⟩ := hA _ _ _ _ hac
  intro h β a w hs K Q hK
  obtain ⟨capsV, hfv, hcaps⟩ := hf hs
  have hargs := h2 hs
  have hall := SimA.append_TL hargs hcaps
  have hvs : args.toList.map a.eval ++ capsV.toList = (args.map a.eval ++ capsV).toList := by rw [Array.toList_append, Array.toList_map]
  rw [hvs] at hall
  generalize hV : args.map a.eval ++ capsV = V at hall
  unfold Oper.wp
  have hrun : (execOp a.eval o).run P w = .ok (.enter g V) w := by
    simp only [execOp, hop, resolve, Deferred.ofValue, hfv, Sem.run_bind, Sem.run_pure, Result.andThen_ok, invoke, Array.empty_append, hV]
    exact run_callFunc hHas V
  rw [hrun, Oper.upon_enter]
  -- what is frozen
  obtain ⟨h1, hle1, s1⟩ := hs.freezes hexp.frozen
  have hliveN : ∀ n ∈ ns, updL f (frW zs) (.live n) = f (.live n) := fun n hn => frW_live (hapart n hn)
  obtain ⟨hrel, halone⟩ := relA_of s1 (frW_row zs) (fun n c => frW_other (fun z _ => by simp)) (fun z hz => frW_mem hz) hliveN hexp (hall.mono hle1 (BM.le_refl β))
  have s2 := s1.kills (ns := ns)
  have hloose : ∀ b ∈ ns.flatMap (blkOf β), Loose E (updL (updL f (frW zs)) (deadW ns)) β h1 b := fun b hb => kills_loose s1 halone hb
  have hbn := blks_nodup s1 hnodup halone
  refine (hcon w h1 V _ (s1.glob.mono s1.le0) s1.on hrel hbn (fun b hb => (hloose b hb).1)).mono ?_
  intro e w' hR
  obtain ⟨cv, h', rb, ob, rfl, hle2, hon, hr, ho, hnd2, hnone, hnew, hfr⟩ := hR
  have hg2 : ∀ n, n ∈ ns → updL (updL f (frW zs)) (deadW ns) (.live n) = .skip := fun n hn => deadW_mem hn
  have s3 := s2.called hloose hle2 hon hnew hfr
  have hloose3 : ∀ b ∈ rb ++ ob, Loose E (updL (updL f (frW zs)) (deadW ns)) β h' b := fun b hb => by
    obtain ⟨q1, q2⟩ := hnone b hb
    refine ⟨q1, fun m ho => ?_, ?_⟩
    · rcases q2 with q2 | q2
      · exact (hloose b q2).2.1 m ho
      · have := s2.own_lt ho; omega
    · rcases q2 with q2 | q2
      · exact (hloose b q2).2.2
      · exact .inr (Nat.le_trans hs.fr.size q2)
  have hundef : ∀ n, f (.live n) = .undef → n ∉ ns ∧ updL (updL f (frW zs)) (deadW ns) (.live n) = .undef := fun n hn => by
    have h1 : n ∉ ns := fun q => by
      rcases halone n q with e | ⟨_, e⟩ <;> rw [hliveN n q, hn] at e <;> cases e
    refine ⟨h1, ?_⟩
    rw [deadW_other (fun z hz => ⟨fun e => h1 (by simp at e; rw [e]; exact hz), by simp⟩)]
    exact frz_undef hexp.frozen hn
  have hkeep : ∀ n ∈ ns, KeepN f β w' n := fun n hn => by
    have hmem : ∀ b ∈ blkOf β n, b ∈ ns.flatMap (blkOf β) := fun b hb => List.mem_flatMap.2 ⟨n, hn, hb⟩
    rcases halone n hn with e | ⟨sz, e⟩
    · obtain ⟨b, sz, k, rows, e1, e2, e3⟩ := s1.rows n false e
      rw [frW_row] at e2
      simp only [KeepN, e1]
      refine ⟨⟨rows, e2, rfl⟩, ?_⟩
      cases b with
      | none => exact ⟨e3.2, by rw [e3.1]; rfl⟩
      | some b =>
        obtain ⟨cs, T, p1, p2, _⟩ := e3
        obtain ⟨cs', p3, p4⟩ := hfr.shape b cs T p1 (hmem b (by simp [blkOf, e1]))
        intro cs2 T2 q
        rw [p3] at q; simp only [Option.some.injEq, Obj.cells.injEq, and_true] at q
        rw [← q.1, p4, p2]
    · obtain ⟨b, e1, cs, T, p1, p2, _⟩ := s1.boxes n sz e
      simp only [KeepN, e1]
      obtain ⟨cs', p3, p4⟩ := hfr.shape b cs T p1 (hmem b (by simp [blkOf, e1]))
      intro cs2 T2 q
      rw [p3] at q; simp only [Option.some.injEq, Obj.cells.injEq, and_true] at q
      rw [← q.1, p4, p2]
  rw [liveN_append] at hnd
  have hfr2 : ∀ n, n ∈ liveN im ++ liveN (impR me r).2 → f (.live n) = .undef := fun n hn => by
    rw [← liveN_append] at hn
    obtain ⟨x, hx⟩ := mem_liveN.1 hn
    exact hfresh n x hx
  obtain ⟨⟨β1, t1⟩, hnames⟩ := hback.ok s3 hexp hall (BM.le_refl β) (fun n hn => ⟨hkeep n hn, hg2 n hn⟩) ho (List.nodup_append.1 hnd2).2.1 hnodup (fun b hb => hloose3 b (List.mem_append_right _ hb)) (List.nodup_append.1 hnd).1 (fun n hn => (hundef n (hfr2 n (List.mem_append_left _ hn))).2)
  have hloose4 : ∀ b ∈ rb, Loose E (updL (updL (updL f (frW zs)) (deadW ns)) bk) β1 h' b := fun b hb =>
    (hloose3 b (List.mem_append_left _ hb)).after t1 (fun q => (List.nodup_append.1 hnd2).2.2 b hb b q rfl)
  have hfr4 : ∀ m y, (Pl.live m, y) ∈ (impR me r).2 → updL (updL (updL f (frW zs)) (deadW ns)) bk (.live m) = .undef := fun m y hm => by
    have hm' : m ∈ liveN (impR me r).2 := mem_liveN.2 ⟨y, hm⟩
    obtain ⟨u1, u2⟩ := hundef m (hfr2 m (List.mem_append_right _ hm'))
    rw [updL_live (fun q => ?_), u2]
    rcases hnames m q with p | p
    · exact u1 p
    · exact (List.nodup_append.1 hnd).2.2 m p m hm' rfl
  obtain ⟨β2, t2, sv⟩ := impR_ok (n := me) t1.sim hr (List.nodup_append.1 hnd2).1 hloose4 hfr4
  refine hK h' β2 _ w' (fin_ok hev7 ?_ sv)
  rw [updL_append, updL_append, updL_append]
  exact t2.sim
/-- What the layer says of any operation holds of the machine's. -/
theorem opRd_ok (hT : TyOK P C.Γ) (hA : ∀ g ys r outs, C.ac g ys r outs → AC P C.G g ys r outs) {o : Oper} (hev : (opRd C E.N o).ev f ws) : OpOK P C.G E o f ws := by
  have main : ∀ me, (opAt C E.N me o).ev f ws → OpOK P C.G E o f ws := by
    intro me hev
    unfold opAt at hev
    split at hev
    · rename_i x hop; exact ok_move (.inl hop) hev
    · rename_i x hop; exact ok_move (.inr hop) hev
    · rename_i c x y hop; exact ok_pick hop hev
    · rename_i T hop; exact ok_alloc hT hev hop
    · rename_i T x hop; exact ok_box hev hop
    · rename_i T ps hop; exact ok_build hT hev hop
    · rename_i T len ps hop; exact ok_buildSlice hT hev hop
    · rename_i T x hop; exact ok_load hT hev hop
    · rename_i T x y hop; exact ok_store hT hev hop
    · rename_i x hop; exact ok_nilCheck hev hop
    · rename_i op T x y yT hop; exact ok_binOp hT hev hop
    · rename_i op T x hop; exact ok_unOp hev hop
    · rename_i src dst x hop; exact ok_convert hT hev hop
    · rename_i g fs cs hop; exact ok_makeFunc hev hop
    · rename_i T l c hop; exact ok_makeSlice hT hev hop
    · rename_i T x lo hi hop; exact ok_slice hT hev hop
    · rename_i T x i hop; exact ok_fieldAddr hT hev hop
    · rename_i T x i hop; exact ok_field hT hev hop
    · rename_i T x i hop; exact ok_indexAddr hT hev hop
    · rename_i T x i hop; exact ok_index hT hev hop
    · rename_i x i hop; exact ok_extract hop hev
    · rename_i b args argTypes hop; exact ok_builtin hT hev hop
    · rename_i fo args argTypes hop; exact ok_call hA hev hop
    · exact (fail_ev.1 hev).elim
  unfold opRd at hev
  split at hev <;> (intro h β a w hs; exact main _ hev hs)
end
end Go.Proofs.YtaklcemgpinleaaDoor
