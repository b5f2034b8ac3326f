/- For every input, the law FnUntil returns true: the contract of the law's Go text, handed on to the given card. No condition. -/
import Derived.Test.YtaklcemgpinleaaDoorCr40
import Derived.Test.YtaklcemgpinleaaDoorCr41
import Derived.Test.YtaklcemgpinleaaDoorTie
import Derived.Test.YtaklcemgpinleaaDoorCards
import Derived.OpenVars
import Derived.SevenTiedAt
namespace Go.Proofs.YtaklcemgpinleaaDoor
open Go Go.ChangeShapes Go.WideShapes Go.ChangeAt Go.RowKit
set_option linter.unusedSimpArgs false
set_option linter.unusedVariables false
set_option linter.unnecessarySimpa false
set_option linter.unusedSectionVars false
set_option maxRecDepth 100000
theorem own : ownKnob Tryd.prog.godebug = none := by kernel_rfl
theorem laidOut : laidOutB Tryd.prog = true := by kernel_rfl
abbrev laidAll : List (String × DataW Unit) := Rows.fnUntilRow.laid
theorem door_met (os : Os) (args : Array Value) : laidMetH Tryd.prog laidAll ((World.doorLaid Tryd.prog 400 os).forCall (fun _ _ => 0) ⟨#[], args, []⟩).memory := by
  rw [MakeChecks.laidMetH_plain _ _ _ (by kernel_rfl)]
  exact laidMet_of_run' 8 (by kernel_rfl) (by kernel_rfl)
theorem var_heap {P : Program} {W : World} {n : String} {g : Nat} {cs : Array Value} (hg : P.globalNamed n = some g) (hv : W.var? P n = some cs) : ∃ T fr, W.heap[g]? = some (.cells cs T fr) := by
  simp only [World.var?, hg, Option.bind_some] at hv
  split at hv
  · rename_i c T fr hb
    simp only [Option.some.injEq] at hv; subst hv
    exact ⟨T, fr, hb⟩
  · cases hv
theorem gok_of {W : World} (h : laidMetH Tryd.prog laidAll W) : GOK gl (allH W) := by
  rw [MakeChecks.laidMetH_plain _ _ _ (by kernel_rfl)] at h
  obtain ⟨ps, ⟨g0, t0, cs0, f0, p0, q0, _, _, _, _, ⟨g1, t1, cs1, f1, p1, q1, _, _, _, _, ⟨g2, t2, cs2, f2, p2, q2, hg2, ht2, hv2, hd2, ⟨g3, t3, cs3, f3, p3, q3, hg3, ht3, hv3, hd3, _, _⟩, _⟩, _⟩, _⟩, _⟩ := h
  obtain rfl : g2 = 1 := Option.some.inj (hg2.symm.trans (by kernel_rfl))
  obtain rfl : g3 = 0 := Option.some.inj (hg3.symm.trans (by kernel_rfl))
  obtain rfl : t2 = 99 := Option.some.inj (ht2.symm.trans (by kernel_rfl))
  obtain rfl : t3 = 68 := Option.some.inj (ht3.symm.trans (by kernel_rfl))
  have e2 : cs2.toList = pow10s.map fun z => Value.int .u64 z := Lib.cells_of_tab (n := 20) (e := 90) (by kernel_rfl) (by kernel_rfl) (by kernel_rfl) (by kernel_rfl) hd2
  have e3 : cs3.toList = kws.map Value.string := strs_of_data (n := 17) (e := 9) (by kernel_rfl) (by kernel_rfl) (by kernel_rfl) (by kernel_rfl) hd3
  obtain ⟨T2, fr2, b2⟩ := var_heap hg2 hv2
  obtain ⟨T3, fr3, b3⟩ := var_heap hg3 hv3
  intro g rows hg
  by_cases h0 : g = 0
  · subst h0
    obtain rfl : strs kws = rows := Option.some.inj hg
    have := rows_of_scal (h := allH W) (fun x hx => by simp only [List.mem_map] at hx; obtain ⟨s, _, rfl⟩ := hx; rfl) e3
    rw [List.map_map] at this
    exact ⟨cs3, T3, fr3, b3, this⟩
  · by_cases h1 : g = 1
    · subst h1
      obtain rfl : (pow10s.map fun x => [TV.v (.int .u64 x)]) = rows := Option.some.inj hg
      have := rows_of_scal (h := allH W) (fun x hx => by simp only [List.mem_map] at hx; obtain ⟨s, _, rfl⟩ := hx; rfl) e2
      rw [List.map_map] at this
      exact ⟨cs2, T2, fr2, b2, this⟩
    · exfalso
      have n0 : Nat.beq g 0 = false := natbeq_false h0
      have n1 : Nat.beq g 1 = false := natbeq_false h1
      simp only [gl, n0, n1, cond_false] at hg
      cases hg
theorem lifted (os : Os) (started : os.Started) (H : Type) (enc : TypeId × Value → H) :
    ReturnsInHanded {} Tryd.checked os 3 .any (fun w args => (Rows.fnUntilSpec.pre enc Tryd.prog Tryd.f3 [] false w args ∧ laidMetH Tryd.prog laidAll w) ∧ sizedMet enc Tryd.prog Tryd.f3 (OpenSpec.ofChange Rows.fnUntilSpec) false w args)
      (Rows.fnUntilSpec.post enc Tryd.prog Tryd.f3 false true false false) := by
  refine returnsInHanded_of_change_and (C := Tryd.checked) (X := fun w _ => laidMetH Tryd.prog laidAll w) (fun _ _ _ hh h => h.of_heap hh) own started (by kernel_rfl) Tryd.func3
    (ChangeSpec.witness_shaped (enc := enc) (C := Tryd.checked) (os := os) (X := fun w _ => laidMetH Tryd.prog laidAll w) false (World.doorLaid Tryd.prog 400 os) #[.slice none 0 0] 8 rfl (World.shaped_of_RefB (by kernel_rfl) (by kernel_rfl)) (by kernel_rfl) (by kernel_rfl) (by kernel_rfl) (door_met os _)) ?_
  intro W base args ds gs before hval0 hW _ _ hL _
  have hval : ∀ (j : Nat) t v, Tryd.f3.params[j]? = some t → args[j]? = some v → Value.okWide Tryd.prog W .any base t v := hval0
  have hW' := hW
  obtain ⟨p, q, hA0, hV, rfl, hfz, hnd⟩ := hW
  have hA : DataW.TrodAll enc Tryd.prog W 0 (fun _ => true) true Tryd.f3.params.toList args.toList ds p := hA0
  rw [Tryd.params3] at hA hval
  obtain ⟨v0, vs0, d0, ds0, p0, q0, hargs, rfl, rfl, h0, r0⟩ := trodAll_cons hA
  obtain ⟨rfl, rfl, rfl⟩ := trodAll_nil r0
  obtain rfl : args = #[v0] := by cases args; simp_all
  have hok := hval 0 22 v0 rfl rfl
  obtain ⟨a0, len0, cap0, rfl⟩ := okWide_slice Tryd.underlying22 hok
  have k0 := h0
  have lt0 : ∀ x ∈ p0, x.block < W.heap.size := by obtain ⟨m, hm⟩ := k0; exact DataW.trod_lt m _ _ _ hm
  obtain ⟨z0, w0⟩ : ∃ zs, ByteRow W a0 len0 cap0 zs := by
    obtain ⟨fuel, hf⟩ := h0
    rcases open_ints Tryd.underlying22 Tryd.underlying5 (by kernel_rfl) hf with ⟨hcs, _⟩ | ⟨x, l, c, zs, hcs, _, hl, hm, hz, _, hcell, hwz⟩
    · simp [Value.cells] at hcs
      obtain ⟨rfl, rfl, rfl⟩ := hcs
      exact ⟨[], .inl ⟨rfl, rfl, rfl, rfl⟩⟩
    · simp [Value.cells] at hcs
      obtain ⟨rfl, rfl, rfl⟩ := hcs
      simp only [Value.okWide, Tryd.underlying22, Cell.okWide, Cell.ok] at hok
      obtain ⟨_, _, _, hsp, row, cells, hsh, _⟩ := hok
      obtain ⟨b, off, spot⟩ := x
      simp only at hsp; subst hsp
      obtain ⟨cs, T, fr, hb⟩ : ∃ cs T fr, W.heap[b]? = some (.cells cs T fr) := by
        simp only [World.shape?] at hsh
        split at hsh
        · rename_i c T fr hb; exact ⟨c, T, fr, hb⟩
        · cases hsh
      refine ⟨zs, .inr ⟨b, off, cs, T, fr, rfl, hb, hl, by simpa using hz, fun i hi => ?_, fun n hn => ?_⟩⟩
      · have := hcell i hi
        have hadd : (⟨b, off, none⟩ : Addr).add i = ⟨b, off + i, none⟩ := by unfold Addr.add; split <;> simp_all
        rw [hadd] at this
        simpa [World.cell?, hb] using this
      · have := hwz n hn
        simp only [Lit.wf, Bool.and_eq_true, decide_eq_true_eq] at this
        have e1 : IntKind.u8.min = 0 := rfl
        have e2 : IntKind.u8.max = 255 := rfl
        omega
  clear hA0 hval0
  refine (law_walk (f := 3) w_FnUntil (gok_of hL) w0).mono fun e W' ⟨he, bel⟩ => ?_
  subst he
  have hV0 : DataW.TrodVars enc Tryd.prog W (fun _ => true) ["loop.example/g00916/impl.keywords"] gs q := hV
  have hV2 := Below.trodVars (enc := enc) laidOut bel (by kernel_rfl) hV0
  obtain ⟨_, _, _, _, d1, _, rfl, _⟩ := trodVars_one hV0
  exact ⟨_, rfl, _, _, _, [], _, q, hW', trodAll_mk1 (shut_bool Tryd.underlying4 _), (trodAll_cons_mk (Below.trod laidOut (by kernel_rfl) (of_decide_eq_true (by kernel_rfl)) k0 bel lt0) trodAll_mk0), hV2, bel.frame _, fun h => by cases h⟩
theorem fnUntil_row : Rows.FnUntilSaid :=
  OpenClaim.holds_of_wide 3 Tryd.f3 rfl rfl rfl rfl rfl rfl rfl ⟨rfl, rfl, rfl, rfl, rfl⟩ rfl rfl rfl rfl rfl (by kernel_rfl) Tryd.func3 (by kernel_rfl)
    (of_decide_eq_true (by kernel_rfl)) (by unfold Func.isWrapper; first | (rw [if_pos (by decide +kernel)]; kernel_rfl) | (rw [if_neg (by decide +kernel)]; exact ⟨rfl, rfl⟩))
    (fun os started H enc _ => lifted os started H enc)
theorem fnUntil_holds : Rows.FnUntilCardSaid :=
  Claim7.holds_tied_plain_at .later [] [.data, .data, .data, .widerDeep] true (true, "6e99684a3ad9e28ed159c08ff05f593571594ce932816a00e4d5867f17576f7a") false
    fnUntil_row (fun _ h => by cases h) (by kernel_rfl) (fun _ h => by cases h) fnUntil_row_tie rfl ⟨rfl, rfl⟩ (by kernel_rfl) rfl
    (fun f fn hf hfn => by
      obtain rfl : f = 3 := Option.some.inj ((show Tryd.prog.funcNamed "loop.example/g00916/laws.FnUntil" = some 3 by kernel_rfl).symm.trans hf) |>.symm
      obtain rfl : fn = Tryd.f3 := (Option.some.inj (Tryd.func3.symm.trans hfn)).symm
      exact ⟨by kernel_rfl, fun j t ht => by
        rw [Tryd.params3] at ht
        have hm : t ∈ [22] := by simpa using Array.mem_of_getElem? ht
        have hall : ([22].all fun u => !Tryd.prog.wantsStandIn u) = true := by kernel_rfl
        exact (show Tryd.prog.wantsStandIn t = false by simpa using List.all_eq_true.1 hall t hm)⟩)
    (by kernel_rfl)
#print axioms fnUntil_holds
end Go.Proofs.YtaklcemgpinleaaDoor
