/- Contracts of draws of blocks. -/
import Derived.Test.YtaklcemgpinleaaDoorCr38
import Derived.Test.YtaklcemgpinleaaDoorCr37
namespace Go.Proofs.YtaklcemgpinleaaDoor
open Go
set_option linter.unusedSimpArgs false
set_option linter.unusedVariables false
set_option linter.unnecessarySimpa false
set_option linter.unusedSectionVars false
set_option maxRecDepth 100000
set_option maxHeartbeats 1000000 in
theorem s_l15DrawTerm (s : Src) : ∃ (t : Tm) (s' : Src), t.s.size < 4611686018427387904 ∧ A 31 [SB s] (T t) [SB s'] := by
  have : E 31 [SB s] (fun r outs => ∃ (t : Tm) (s' : Src), t.s.size < 4611686018427387904 ∧ r = T t ∧ outs = [SB s']) := by
    obtain ⟨x1, s1, _, _, c1⟩ := s_l01Next s 6
    refine ec [] [] (fn := Tryd.f31) rfl (by kernel_rfl) [0, 2, 3, 10, 15, 16, 22, 28] ?_
    conv => whnf
    refine call c1 ?_
    conv => whnf
    refine call (s_l13Counts _) ?_
    have fin : ∀ (s : Src) (k n : Int), (∃ x s', x ∈ [0, 6, 13] ∧ A 35 [SB s, L 1 (ints [0, 6, 13])] (I x) [SB s', .undef]) ∧ (∃ x s', x ∈ [-1, 1, 9999, 10000] ∧ A 35 [SB s, L 1 (ints [-1, 1, 9999, 10000])] (I x) [SB s', .undef]) := fun s _ _ =>
      ⟨s_l01Pick s [0, 6, 13] (by decide) (by decide), s_l01Pick s [-1, 1, 9999, 10000] (by decide) (by decide)⟩
    conv => whnf
    refine Br_intro (fun h => ?_) (fun h => ?_)
    · obtain ⟨x2, s2, _, _, c2⟩ := s_l01Next s1 5
      conv => whnf
      refine call c2 ?_
      obtain ⟨x3, s3, _, _, c3⟩ := s_l01Next s2 30
      conv => whnf
      refine call c3 ?_
      obtain ⟨⟨y, s4, _, c4⟩, ⟨z, s5, _, c5⟩⟩ := fin s3 0 0
      conv => whnf
      refine Br_intro (fun h => ?_) (fun h => ?_)
      · conv => whnf
        refine call c4 ?_
        exact ⟨⟨_, _, _⟩, _, (by decide : (⟨#[]⟩ : ByteArray).size < 4611686018427387904), rfl, rfl⟩
      · conv => whnf
        refine Br_intro (fun h => ?_) (fun h => ?_)
        · conv => whnf
          refine call c5 ?_
          exact ⟨⟨_, _, _⟩, _, (by decide : (⟨#[]⟩ : ByteArray).size < 4611686018427387904), rfl, rfl⟩
        · conv => whnf
          refine Br_intro (fun h => ?_) (fun h => ?_)
          · exact ⟨⟨_, ⟨#[97]⟩, _⟩, _, (by decide : (⟨#[97]⟩ : ByteArray).size < 4611686018427387904), rfl, rfl⟩
          · exact ⟨⟨_, _, _⟩, _, (by decide : (⟨#[]⟩ : ByteArray).size < 4611686018427387904), rfl, rfl⟩
    · obtain ⟨x3, s3, _, _, c3⟩ := s_l01Next s1 30
      conv => whnf
      refine call c3 ?_
      obtain ⟨⟨y, s4, _, c4⟩, ⟨z, s5, _, c5⟩⟩ := fin s3 0 0
      conv => whnf
      refine Br_intro (fun h => ?_) (fun h => ?_)
      · conv => whnf
        refine call c4 ?_
        exact ⟨⟨_, _, _⟩, _, (by decide : (⟨#[]⟩ : ByteArray).size < 4611686018427387904), rfl, rfl⟩
      · conv => whnf
        refine Br_intro (fun h => ?_) (fun h => ?_)
        · conv => whnf
          refine call c5 ?_
          exact ⟨⟨_, _, _⟩, _, (by decide : (⟨#[]⟩ : ByteArray).size < 4611686018427387904), rfl, rfl⟩
        · conv => whnf
          refine Br_intro (fun h => ?_) (fun h => ?_)
          · exact ⟨⟨_, ⟨#[97]⟩, _⟩, _, (by decide : (⟨#[97]⟩ : ByteArray).size < 4611686018427387904), rfl, rfl⟩
          · exact ⟨⟨_, _, _⟩, _, (by decide : (⟨#[]⟩ : ByteArray).size < 4611686018427387904), rfl, rfl⟩
  obtain ⟨r, outs, ⟨t, s', h, rfl, rfl⟩, hA⟩ := this
  exact ⟨t, s', h, hA⟩
theorem bit_of {x : Int} (h0 : 0 ≤ x) (h1 : x < 2 ∨ x = 0) : x = 0 ∨ x = 1 := by omega
set_option maxHeartbeats 1000000 in
theorem s_l15DrawArgs (s : Src) (t : Tm) : ∃ (x y : Int) (s' : Src), (x = 0 ∨ x = 1) ∧ (y = 0 ∨ y = 1) ∧ A 33 [SB s, T t] (.vec 1 (ints (if takes t.k = 2 then [x, y] else [x]))) [SB s', U3] := by
  obtain ⟨x1, s1, a1, b1, c1⟩ := s_l01Next s 2
  by_cases hk : takes t.k = 2
  · obtain ⟨x2, s2, a2, b2, c2⟩ := s_l01Next s1 2
    refine ⟨x1, x2, s2, bit_of a1 b1, bit_of a2 b2, ?_⟩
    rw [if_pos hk]
    refine ac [33] [] (fn := Tryd.f33) rfl (by kernel_rfl) [0, 1, 3, 4, 5, 12] ?_
    conv => whnf
    refine call c1 ?_
    conv => whnf
    refine call (s_l13Takes _) ?_
    conv => whnf
    refine Br_true (by simpa using hk) ?_
    conv => whnf
    refine call c2 ?_
    conv => whnf
    refine And.intro (Nat.le_of_ble_eq_true rfl) ?_
    conv => whnf
    refine isR rfl rfl
  · refine ⟨x1, 0, s1, bit_of a1 b1, .inl rfl, ?_⟩
    rw [if_neg hk]
    refine ac [33] [] (fn := Tryd.f33) rfl (by kernel_rfl) [0, 1, 3, 4, 5, 12] ?_
    conv => whnf
    refine call c1 ?_
    conv => whnf
    refine call (s_l13Takes _) ?_
    conv => whnf
    refine Br_false (by simpa using hk) ?_
    conv => whnf
    refine isR rfl rfl
theorem argL_takes {k x y : Int} (h0 : 7 ≤ k) (h1 : k ≤ 12) : (if takes k = 2 then [x, y] else [x]) = argL k x y := by
  rcases kinds h0 h1 with rfl | rfl | rfl | rfl | rfl | rfl <;> rfl
theorem poss_zero {t : Tm} (hB : blockB t = true) : possB t ⟨0, 0, 0⟩ = true := by
  obtain ⟨h1, h2, h3, h4⟩ := block_facts hB
  obtain ⟨k, nm, n⟩ := t
  dsimp only at *
  rcases kinds h1 h2 with rfl | rfl | rfl | rfl | rfl | rfl <;> simp [possB, inR, h3]
set_option maxHeartbeats 2000000 in
theorem s_l15DrawState (s : Src) (t : Tm) (hs : t.s.size < 4611686018427387904) : ∃ (b : Bs) (s' : Src), A 32 [SB s, T t] (BS b) [SB s', U3] := by
  have : E 32 [SB s, T t] (fun r outs => ∃ (b : Bs) (s' : Src), r = BS b ∧ outs = [SB s', U3]) := by
    have p1 := fun s => s_l01Pick s [-1, 1, t.n, IntKind.i64.wrap (t.n + 1), IntKind.i64.wrap (t.n + 2)] (by simp) (by simp)
    have p2 := fun s => s_l01Pick s [-1, 1, 2] (by simp) (by simp)
    refine ec [] [] (fn := Tryd.f32) rfl (by kernel_rfl) [0, 1, 3, 4, 5, 6, 9, 13, 26, 27, 41, 47] ?_
    conv => whnf
    refine call (s_IsBlock t hs) ?_
    conv => whnf
    refine Br_intro (fun h => ?_) (fun h => ?_)
    · obtain ⟨x1, s1, a1, b1, c1⟩ := s_l01Next s 9
      obtain ⟨h1, h2, h3, h4⟩ := block_facts h
      conv => whnf
      refine call c1 ?_
      refine lp (fun i : Int × Bs × Src => 0 ≤ i.1 ∧ i.1 < 9 ∧ possB t i.2.1 = true)
        (fun i => ⟨[(0, .ptr (.arg 0) 0), (1, T t), (3, .ptr (.site 3) 0), (4, .ptr (.site 4) 0), (5, .ptr (.site 5) 0), (6, I i.1), (9, .undef), (13, .undef), (26, .undef), (27, .undef), (41, .undef), (47, .undef)], [(.arg 0, .box [L 1 (bytes i.2.2.code), I i.2.2.pos, I i.2.2.seed]), (.site 3, .box [I t.k, S t.s, I t.n]), (.site 4, .box [I 0, I 0, I 0]), (.site 5, .box [I i.2.1.a, I i.2.1.b, I i.2.1.c])], [(0, .ptr (.arg 0) 0), (1, T t)]⟩)
        (fun i => i.1.toNat) ⟨(x1, ⟨0, 0, 0⟩, s1), [], [], ⟨a1, by dsimp only; omega, poss_zero h⟩, ?_⟩ (fun i hI => ?_)
      · (refine And.intro trivial (And.intro rfl ?_); repeat' (first | exact trivial | exact rfl | refine And.intro ?_ ?_ | (refine fitI ?_; ((repeat rw [wrap_id (by omega) (by omega)]) <;> first | rfl | omega))))
      · obtain ⟨n, b, s2⟩ := i
        obtain ⟨g0, g1, g2⟩ := hI
        dsimp only at g0 g1 g2
        conv => whnf
        refine Br_intro (fun e => ?_) (fun e => ?_)
        · have hn : 0 < n := by simpa using e
          obtain ⟨x, y, s3, kx, ky, c3⟩ := s_l15DrawArgs s2 t
          conv => whnf
          refine call c3 ?_
          rw [argL_takes h1 h2] at c3
          obtain ⟨q1, q2⟩ := step_poss h g2 kx ky
          have hst := s_l15Step t b x y h g2 kx ky
          rw [← argL_takes h1 h2] at hst
          conv => whnf
          refine call hst ?_
          conv => whnf
          refine And.intro (by kernel_rfl) ?_
          refine ⟨(n - 1, (stepF t.k t.n b x y).2, s3), [], [], ⟨by dsimp only; omega, by dsimp only; omega, q1⟩, by dsimp only; omega, ?_⟩
          (refine And.intro trivial (And.intro rfl ?_); repeat' (first | exact trivial | exact rfl | refine And.intro ?_ ?_ | (refine fitI ?_; ((repeat rw [wrap_id (by omega) (by omega)]) <;> first | rfl | omega))))
        · obtain ⟨x4, s4, _, _, c4⟩ := s_l01Next s2 24
          conv => whnf
          refine call c4 ?_
          conv => whnf
          refine Br_intro (fun e => ?_) (fun e => ?_)
          · obtain ⟨y, s5, _, c5⟩ := p1 s4
            conv => whnf
            refine call c5 ?_
            exact ⟨⟨y, b.b, b.c⟩, _, rfl, rfl⟩
          · conv => whnf
            refine Br_intro (fun e => ?_) (fun e => ?_)
            · obtain ⟨y, s5, _, c5⟩ := p2 s4
              conv => whnf
              refine call c5 ?_
              exact ⟨⟨b.a, y, b.c⟩, _, rfl, rfl⟩
            · conv => whnf
              refine Br_intro (fun e => ?_) (fun e => ?_)
              · obtain ⟨y, s5, _, c5⟩ := p2 s4
                conv => whnf
                refine call c5 ?_
                exact ⟨⟨b.a, b.b, y⟩, _, rfl, rfl⟩
              · exact ⟨b, _, rfl, rfl⟩
    · obtain ⟨x4, s4, _, _, c4⟩ := s_l01Next s 24
      conv => whnf
      refine call c4 ?_
      conv => whnf
      refine Br_intro (fun e => ?_) (fun e => ?_)
      · obtain ⟨y, s5, _, c5⟩ := p1 s4
        conv => whnf
        refine call c5 ?_
        exact ⟨⟨_, _, _⟩, _, rfl, rfl⟩
      · conv => whnf
        refine Br_intro (fun e => ?_) (fun e => ?_)
        · obtain ⟨y, s5, _, c5⟩ := p2 s4
          conv => whnf
          refine call c5 ?_
          exact ⟨⟨_, _, _⟩, _, rfl, rfl⟩
        · conv => whnf
          refine Br_intro (fun e => ?_) (fun e => ?_)
          · obtain ⟨y, s5, _, c5⟩ := p2 s4
            conv => whnf
            refine call c5 ?_
            exact ⟨⟨_, _, _⟩, _, rfl, rfl⟩
          · exact ⟨⟨_, _, _⟩, _, rfl, rfl⟩
  obtain ⟨r, outs, ⟨b, s', rfl, rfl⟩, hA⟩ := this
  exact ⟨b, s', hA⟩
/-- a term, a state and a list of arguments that are drawn -/
def DrawZ (r : AV) (outs : List AV) : Prop := ∃ (t : Tm) (b : Bs) (xs : List Int), t.s.size < 4611686018427387904 ∧ xs.length < 4 ∧ r = .tup [T t, BS b, .vec 1 (ints xs)] ∧ outs = [.undef]
set_option maxHeartbeats 2000000 in
theorem s_DrawStepBlock (code : List UInt8) (hl : code.length ≤ 4096) : E 14 [L 1 (bytes code)] DrawZ := by
  obtain ⟨s, c1⟩ := s_l01From code hl
  obtain ⟨t, s2, ht, c2⟩ := s_l15DrawTerm s
  obtain ⟨b, s3, c3⟩ := s_l15DrawState s2 t ht
  obtain ⟨x, y, s4, kx, ky, c4⟩ := s_l15DrawArgs s3 t
  obtain ⟨z, s5, _, _, c5⟩ := s_l01Next s4 24
  obtain ⟨u, s6, _, c6⟩ := s_l01Pick s5 [-1, 2] (by simp) (by simp)
  have hlen : (if takes t.k = 2 then [x, y] else [x]).length ≤ 2 := by split <;> simp
  have hpos : 0 < (if takes t.k = 2 then [x, y] else [x]).length := by split <;> simp
  generalize (if takes t.k = 2 then [x, y] else [x]) = xs at c4 hlen hpos
  have hll : (ints xs).length = xs.length := by simp
  refine ec [14] [] (fn := Tryd.f14) rfl (by kernel_rfl) [0, 2, 3, 4, 5, 6, 7, 8, 20, 21, 26] ?_
  conv => whnf
  refine call c1 ?_
  conv => whnf
  refine call c2 ?_
  conv => whnf
  refine call c3 ?_
  conv => whnf
  refine call c4 ?_
  conv => whnf
  refine call c5 ?_
  conv => whnf
  refine Br_intro (fun e => ?_) (fun e => ?_)
  · conv => whnf
    refine And.intro (by show (_ + 1 : Nat) * 8 ≤ _; omega) ?_
    conv => whnf
    refine And.intro (by kernel_rfl) ?_
    exact ⟨t, b, xs ++ [0], ht, by simp; omega, by simp [ints], rfl⟩
  · conv => whnf
    refine Br_intro (fun e => ?_) (fun e => ?_)
    · conv => whnf
      refine call c6 ?_
      conv => whnf
      refine And.intro (by omega) ?_
      conv => whnf
      refine And.intro (by show (0 : Nat) < _; omega) ?_
      conv => whnf
      refine And.intro (by kernel_rfl) ?_
      exact ⟨t, b, xs.set 0 u, ht, by simp; omega, by simp [ints, List.map_set], rfl⟩
    · conv => whnf
      refine And.intro (by kernel_rfl) ?_
      exact ⟨t, b, xs, ht, by omega, rfl, rfl⟩
theorem s_DrawScansUntil (code : List UInt8) (hl : code.length ≤ 4096) : E 5 [L 1 (bytes code)] DrawZ := by
  obtain ⟨r, outs, ⟨t, b, xs, h1, h2, rfl, rfl⟩, c⟩ := s_DrawStepBlock code hl
  refine ec [5] [] (fn := Tryd.f5) rfl (by kernel_rfl) [0, 2, 3, 4] ?_
  conv => whnf
  refine call c ?_
  exact ⟨t, b, xs, h1, h2, rfl, rfl⟩
def DrawY (r : AV) (outs : List AV) : Prop := ∃ (t : Tm) (b : Bs), t.s.size < 4611686018427387904 ∧ r = .tup [T t, BS b] ∧ outs = [.undef]
set_option maxHeartbeats 2000000 in
theorem s_DrawIsPossible (code : List UInt8) (hl : code.length ≤ 4096) : E 19 [L 1 (bytes code)] DrawY := by
  obtain ⟨s, c1⟩ := s_l01From code hl
  obtain ⟨t, s2, ht, c2⟩ := s_l15DrawTerm s
  obtain ⟨b, s3, c3⟩ := s_l15DrawState s2 t ht
  refine ec [] [] (fn := Tryd.f19) rfl (by kernel_rfl) [0, 2, 3, 4, 5] ?_
  conv => whnf
  refine call c1 ?_
  conv => whnf
  refine call c2 ?_
  conv => whnf
  refine call c3 ?_
  conv => whnf
  refine And.intro (by kernel_rfl) ?_
  exact ⟨t, b, ht, rfl, rfl⟩
theorem s_DrawBlockText (code : List UInt8) (hl : code.length ≤ 4096) : E 8 [L 1 (bytes code)] DrawY := by
  obtain ⟨r, outs, ⟨t, b, h1, rfl, rfl⟩, c⟩ := s_DrawIsPossible code hl
  refine ec [] [] (fn := Tryd.f8) rfl (by kernel_rfl) [0, 2, 3] ?_
  conv => whnf
  refine call c ?_
  exact ⟨t, b, h1, rfl, rfl⟩
end Go.Proofs.YtaklcemgpinleaaDoor
