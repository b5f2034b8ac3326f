/- Contracts of draws: the source of numbers. -/
import Derived.Test.YtaklcemgpinleaaDoorCr35
namespace Go.Proofs.YtaklcemgpinleaaDoor
open Go
set_option linter.unusedSimpArgs false
set_option linter.unusedVariables false
set_option linter.unnecessarySimpa false
set_option linter.unusedSectionVars false
set_option maxRecDepth 100000
/-- a source of numbers -/
structure Src where
  code : List UInt8
  pos : Nat
  seed : Int
  h0 : pos ≤ code.length
  h1 : code.length ≤ 4096
  h2 : 0 ≤ seed
  h3 : seed < 2147483647
abbrev SB (s : Src) : AV := .box [L 1 (bytes s.code), I s.pos, I s.seed]
theorem bytes_at {xs : List UInt8} {i : Nat} (hi : i < xs.length) : (bytes xs)[(i : Int).toNat]? = some [TV.v (.int .u8 xs[i].toNat)] := by simp [bytes, hi]
theorem tmod_nn {a b : Int} (h0 : 0 ≤ a) (h1 : 0 < b) : 0 ≤ a.tmod b ∧ a.tmod b < b := by
  rw [Int.tmod_eq_emod_of_nonneg h0]; exact ⟨Int.emod_nonneg _ (by omega), Int.emod_lt_of_pos _ h1⟩
theorem u8_lt (b : UInt8) : b.toNat < 256 := UInt8.toNat_lt b
set_option maxHeartbeats 1000000 in
theorem s_l01From (code : List UInt8) (hl : code.length ≤ 4096) : ∃ s : Src, A 30 [L 1 (bytes code)] (SB s) [.undef] := by
  have hll : (bytes code).length = code.length := by simp
  have : E 30 [L 1 (bytes code)] (fun r outs => ∃ s : Src, r = SB s ∧ outs = [.undef]) := by
    refine ec [] [] (fn := Tryd.f30) rfl (by kernel_rfl) [0, 2, 3, 4, 15] ?_
    refine lp (fun i : Nat × Int => i.1 ≤ code.length ∧ 0 ≤ i.2 ∧ i.2 < 2147483647) (fun i => ⟨[(0, L 1 (bytes code)), (2, .undef), (3, .ptr (.site 7) 0), (4, I i.1), (15, .undef)], [(.site 7, .box [L 1 (bytes code), I 0, I i.2])], []⟩) (fun i => code.length - i.1) ⟨(0, 52021), [], [], ⟨by omega, by decide, by decide⟩, ?_⟩ (fun i hI => ?_)
    · (refine And.intro trivial (And.intro rfl ?_); repeat' (first | exact trivial | exact rfl | refine And.intro ?_ ?_ | (refine fitI ?_; ((repeat rw [wrap_id (by omega) (by omega)]) <;> first | rfl | omega))))
    · obtain ⟨i, sd⟩ := i
      obtain ⟨g0, g1, g2⟩ := hI
      dsimp only at g0 g1 g2
      conv => whnf
      refine Br_intro (fun e1 => ?_) (fun e1 => ?_)
      · have hi : i < code.length := by simpa using e1
        conv => whnf
        refine Br_intro (fun e2 => ?_) (fun e2 => ?_)
        · have hb := u8_lt code[i]
          conv => whnf
          conv => whnf
          refine ⟨by omega, _, bytes_at hi, ?_⟩
          conv => whnf
          refine And.intro (by omega) ?_
          conv => whnf
          refine And.intro (by kernel_rfl) ?_
          have hw : IntKind.i64.wrap (IntKind.i64.wrap (sd * 59) + IntKind.i64.wrap (code[i].toNat : Int)) = sd * 59 + code[i].toNat := by
            rw [wrap_id (n := sd * 59) (by omega) (by omega), wrap_id (n := (code[i].toNat : Int)) (by omega) (by omega), wrap_id (by omega) (by omega)]
          have hm := tmod_nn (a := sd * 59 + code[i].toNat) (b := 2147483647) (by omega) (by omega)
          refine ⟨(i + 1, (sd * 59 + code[i].toNat).tmod 2147483647), [], [], ⟨by dsimp only; omega, hm.1, hm.2⟩, by dsimp only; omega, ?_⟩
          (refine And.intro trivial (And.intro rfl ?_); repeat' (first | exact trivial | exact rfl | refine And.intro ?_ ?_ | (refine fitI ?_; ((repeat rw [wrap_id (by omega) (by omega)]) <;> first | rfl | omega))))
          rw [hw]; exact rfl
        · exact ⟨⟨code, 0, sd, by omega, hl, g1, g2⟩, rfl, rfl⟩
      · exact ⟨⟨code, 0, sd, by omega, hl, g1, g2⟩, rfl, rfl⟩
  obtain ⟨r, outs, ⟨s, rfl, rfl⟩, hA⟩ := this
  exact ⟨s, hA⟩
theorem wrap_pos {n : Int} (h0 : 0 ≤ n) (h1 : n ≤ 9223372036854775807) : IntKind.i64.wrap n = n := wrap_id (by omega) h1
/-- what a draw makes of a source -/
def NextZ (code : List UInt8) (n : Int) (r : AV) (outs : List AV) : Prop :=
  ∃ (x : Int) (pos : Nat) (sd : Int), 0 ≤ x ∧ (x < n ∨ x = 0) ∧ pos ≤ code.length ∧ 0 ≤ sd ∧ sd < 2147483647 ∧ r = I x ∧ outs = [.box [L 1 (bytes code), I pos, I sd], .undef]
set_option maxHeartbeats 1000000 in
theorem s_l01Next0 (code : List UInt8) (pos : Nat) (sd n : Int) (h0 : pos ≤ code.length) (h1 : code.length ≤ 4096) (h2 : 0 ≤ sd) (h3 : sd < 2147483647) :
    E 34 [.box [L 1 (bytes code), I pos, I sd], I n] (NextZ code n) := by
  have hll : (bytes code).length = code.length := by simp
  refine ec [] [] (fn := Tryd.f34) rfl (by kernel_rfl) [0, 1, 4, 5, 7, 32, 62] ?_
  conv => whnf
  refine Br_intro (fun e1 => ?_) (fun e1 => ?_)
  · exact ⟨0, pos, sd, by omega, .inr rfl, h0, h2, h3, rfl, rfl⟩
  · have hn : 1 < n := by simpa using e1
    have hm : IntKind.i64.wrap (IntKind.i64.wrap (sd * 48271) + 29) = sd * 48271 + 29 := by
      rw [wrap_pos (n := sd * 48271) (by omega) (by omega), wrap_pos (by omega) (by omega)]
    have hq := tmod_nn (a := sd * 48271 + 29) (b := 2147483647) (by omega) (by omega)
    conv => whnf
    refine And.intro (by omega) ?_
    rw [← hm] at hq
    generalize (IntKind.i64.wrap (IntKind.i64.wrap (sd * 48271) + 29)).tmod 2147483647 = q at hq
    obtain ⟨a0, a1⟩ := hq
    have ht : 0 ≤ IntKind.i64.wrap (q.tdiv 31) ∧ IntKind.i64.wrap (q.tdiv 31) < 2147483647 := by
      rw [Int.tdiv_eq_ediv_of_nonneg a0, wrap_pos (by omega) (by omega)]; omega
    conv => whnf
    refine And.intro (by omega) ?_
    generalize IntKind.i64.wrap (q.tdiv 31) = u at ht
    obtain ⟨b0, b1⟩ := ht
    conv => whnf
    refine And.intro (by kernel_rfl) ?_
    conv => whnf
    refine Br_intro (fun e2 => ?_) (fun e2 => ?_)
    · have hi : pos < code.length := by simpa using e2
      have hb := u8_lt code[pos]
      have hw : IntKind.i64.wrap (pos + 1 : Int) = ((pos + 1 : Nat) : Int) := by rw [wrap_pos (by omega) (by omega)]; rfl
      have hu : 0 ≤ IntKind.i64.wrap (u + IntKind.i64.wrap (code[pos].toNat : Int)) := by
        rw [wrap_pos (n := (code[pos].toNat : Int)) (by omega) (by omega), wrap_pos (by omega) (by omega)]; omega
      conv => whnf
      conv => whnf
      refine ⟨by omega, _, bytes_at hi, ?_⟩
      conv => whnf
      refine And.intro (by kernel_rfl) ?_
      generalize IntKind.i64.wrap (u + IntKind.i64.wrap (code[pos].toNat : Int)) = v at hu
      have done1 : ∀ x : Int, 0 ≤ x → NextZ code n (I (x.tmod n)) [.box [L 1 (bytes code), I (IntKind.i64.wrap ((pos : Int) + 1)), I q], .undef] := fun x hx => by
        have hx := tmod_nn hx (show 0 < n by omega)
        rw [hw]
        exact ⟨_, pos + 1, q, hx.1, .inl hx.2, by omega, a0, a1, rfl, rfl⟩
      conv => whnf
      refine Br_intro (fun e3 => ?_) (fun e3 => ?_)
      · conv => whnf
        refine And.intro (by omega) ?_
        conv => whnf
        refine Br_intro (fun e4 => ?_) (fun e4 => ?_)
        · have hk : IntKind.i64.wrap (IntKind.i64.wrap ((pos : Int) + 1) - 1) = (pos : Int) := by rw [hw, wrap_pos (by omega) (by omega)]; omega
          conv => whnf
          conv => whnf
          refine ⟨by omega, _, by rw [hk]; exact bytes_at hi, ?_⟩
          conv => whnf
          refine And.intro (by kernel_rfl) ?_
          conv => whnf
          refine And.intro (by omega) ?_
          refine done1 _ ?_
          rw [wrap_pos (by omega) (by omega)]; omega
        · conv => whnf
          refine And.intro (by omega) ?_
          exact done1 _ hu
      · conv => whnf
        refine And.intro (by omega) ?_
        exact done1 _ hu
    · conv => whnf
      refine And.intro (by omega) ?_
      have hx := tmod_nn b0 (show 0 < n by omega)
      exact ⟨_, pos, q, hx.1, .inl hx.2, h0, a0, a1, rfl, rfl⟩
theorem s_l01Next (s : Src) (n : Int) : ∃ (x : Int) (s' : Src), 0 ≤ x ∧ (x < n ∨ x = 0) ∧ A 34 [SB s, I n] (I x) [SB s', .undef] := by
  obtain ⟨r, outs, ⟨x, pos, sd, hx0, hx1, g1, g2, g3, rfl, rfl⟩, hA⟩ := s_l01Next0 s.code s.pos s.seed n s.h0 s.h1 s.h2 s.h3
  exact ⟨x, ⟨s.code, pos, sd, g1, s.h1, g2, g3⟩, hx0, hx1, hA⟩
theorem s_l01Pick (s : Src) (xs : List Int) (hx : 0 < xs.length) (hl : xs.length < 9223372036854775807) : ∃ (x : Int) (s' : Src), x ∈ xs ∧ A 35 [SB s, L 1 (ints xs)] (I x) [SB s', .undef] := by
  have hll : (ints xs).length = xs.length := by simp
  obtain ⟨x, s', h0, h1, hA⟩ := s_l01Next s ((ints xs).length)
  obtain ⟨k, rfl⟩ : ∃ k : Nat, x = k := ⟨x.toNat, by omega⟩
  have hk : k < xs.length := by omega
  refine ⟨xs[k], s', List.getElem_mem hk, ?_⟩
  refine ac [] [] (fn := Tryd.f35) rfl (by kernel_rfl) [0, 1, 4] ?_
  conv => whnf
  refine call hA ?_
  conv => whnf
  refine ⟨by omega, _, ints_at hk, ?_⟩
  conv => whnf
  refine isR rfl rfl
end Go.Proofs.YtaklcemgpinleaaDoor
