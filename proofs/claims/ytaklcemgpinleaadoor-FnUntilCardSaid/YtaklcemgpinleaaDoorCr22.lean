/- How a contract is shown: the context, the call of a function, small tools. -/
import Derived.Test.YtaklcemgpinleaaDoorCr21
namespace Go.Proofs.YtaklcemgpinleaaDoor
open Go
set_option linter.unusedSimpArgs false
set_option linter.unusedVariables false
set_option linter.unnecessarySimpa false
set_option linter.unusedSectionVars false
def memN (x : Nat) : List Nat → Bool
  | [] => false
  | y :: l => Nat.beq x y || memN x l
def memP (x y : Nat) : List (Nat × Nat) → Bool
  | [] => false
  | (a, b) :: l => (Nat.beq x a && Nat.beq y b) || memP x y l
abbrev strs (xs : List ByteArray) : Rows := xs.map fun s => [TV.v (.string s)]
def kws : List ByteArray := [⟨#[112, 114, 111, 103, 114, 97, 109]⟩, ⟨#[105, 110]⟩, ⟨#[118, 97, 114]⟩, ⟨#[111, 117, 116]⟩, ⟨#[103, 117, 97, 114, 100]⟩, ⟨#[101, 110, 100]⟩, ⟨#[97, 110, 100]⟩, ⟨#[111, 114]⟩, ⟨#[110, 111, 116]⟩, ⟨#[116, 114, 117, 101]⟩, ⟨#[102, 97, 108, 115, 101]⟩, ⟨#[111, 110]⟩, ⟨#[111, 102, 102]⟩, ⟨#[114, 105, 115, 101]⟩, ⟨#[108, 97, 116, 99, 104]⟩, ⟨#[99, 111, 117, 110, 116]⟩, ⟨#[112, 97, 105, 114]⟩]
def pow10s : List Int := [1, 10, 100, 1000, 10000, 100000, 1000000, 10000000, 100000000, 1000000000, 10000000000, 100000000000, 1000000000000, 10000000000000, 100000000000000, 1000000000000000, 10000000000000000, 100000000000000000, 1000000000000000000, 10000000000000000000]
def gl : Nat → Option Rows := fun g => bif Nat.beq g 0 then some (strs kws) else bif Nat.beq g 1 then some (pow10s.map fun x => [TV.v (.int .u64 x)]) else none
/-- The context: whose results are kept; which parameters are handed over. -/
def mkC (kp : List Nat) (ex : List (Nat × Nat)) : Cx := { Γ := typTree.get, exact := fun f j => memP f j ex, keep := fun f => memN f kp, G := gl, ac := AC Tryd.prog gl }
def bodyOf (fn : Func) : Code := match fn.body with | some c => c | none => .skip
def okF (fn : Func) (n : Nat) : Bool := fn.body.isSome && (fn.name != "runtime.NumGoroutine" && Nat.ble n fn.ntmps)
abbrev VC (C : Cx) (fn : Func) (f : FuncId) (keys : List Nat) (args : List AV) (Z : AV → List AV → Prop) : Prop :=
  vcallP C fn.ntmps (Lpx C fn.ntmps) f (bodyOf fn) fn.results.toList keys args Z
abbrev A (f : FuncId) (args : List AV) (r : AV) (outs : List AV) : Prop := AC Tryd.prog gl f args r outs
theorem ac (kp : List Nat) (ex : List (Nat × Nat)) {f : FuncId} {fn : Func} (hf : Tryd.prog.funcs[f]? = some fn) {args : List AV} {r : AV} {outs : List AV} (hb : okF fn args.length = true) (keys : List Nat) (hv : VC (mkC kp ex) fn f keys args (IsR r outs)) : A f args r outs := by
  simp only [okF, Bool.and_eq_true, bne_iff_ne, ne_eq] at hb
  obtain ⟨h1, h2, h3⟩ := hb
  obtain ⟨c, hc⟩ := Option.isSome_iff_exists.1 h1
  refine AC_intro (C := mkC kp ex) tyOK (fun _ _ _ _ h => h) hf hc (by simpa using h2) (Nat.le_of_ble_eq_true h3) (keys := keys) (Lpx_sound tyOK (fun _ _ _ _ h => h)) ?_
  have : bodyOf fn = c := by rw [bodyOf, hc]
  rw [← this]; exact hv
/-- a contract whose result is known to fulfil Z -/
def E (f : FuncId) (args : List AV) (Z : AV → List AV → Prop) : Prop := ∃ r outs, Z r outs ∧ A f args r outs
theorem ec (kp : List Nat) (ex : List (Nat × Nat)) {f : FuncId} {fn : Func} (hf : Tryd.prog.funcs[f]? = some fn) {args : List AV} {Z : AV → List AV → Prop} (hb : okF fn args.length = true) (keys : List Nat) (hv : VC (mkC kp ex) fn f keys args Z) : E f args Z := by
  simp only [okF, Bool.and_eq_true, bne_iff_ne, ne_eq] at hb
  obtain ⟨h1, h2, h3⟩ := hb
  obtain ⟨c, hc⟩ := Option.isSome_iff_exists.1 h1
  refine EC_intro (C := mkC kp ex) tyOK (fun _ _ _ _ h => h) hf hc (by simpa using h2) (Nat.le_of_ble_eq_true h3) (keys := keys) ?_
  have : bodyOf fn = c := by rw [bodyOf, hc]
  rw [← this]; exact hv
theorem lp {C : Cx} {ι : Type} (I : ι → Prop) (S : ι → LSt) (μ : ι → Nat) {N : Nat} {c : Code} {s : St} {K : XExit → St → Prop} (h0 : ∃ i r fz, I i ∧ Fits r fz s (S i))
    (hb : ∀ i, I i → (S i).go fun s => vc C N (Lpx C N) c s fun e s' => match e with | .normal => ∃ j r fz, I j ∧ μ j < μ i ∧ Fits r fz s' (S j) | e => K e s') : Lpx C N c s K :=
  loop_rule I S μ h0 hb
set_option maxRecDepth 100000
theorem call {P Q : AV → List AV → Prop} {r : AV} {outs : List AV} (h : P r outs) (k : Q r outs) : ∃ r outs, P r outs ∧ Q r outs := ⟨r, outs, h, k⟩
theorem Br_dec {p : Prop} [Decidable p] {X Y : Prop} (h1 : p → X) (h2 : ¬ p → Y) : Br (decide p) X Y := Br_intro (fun h => h1 (of_decide_eq_true h)) (fun h => h2 (of_decide_eq_false h))
theorem Br_eq {a b : Int} {X Y : Prop} (h1 : a = b → X) (h2 : a ≠ b → Y) : Br (a == b) X Y := Br_intro (fun h => h1 (by simpa using h)) (fun h => h2 (by simpa using h))
theorem Br_ne {a b : Int} {X Y : Prop} (h1 : a ≠ b → X) (h2 : a = b → Y) : Br (a != b) X Y := Br_intro (fun h => h1 (by simpa using h)) (fun h => h2 (by simpa using h))
theorem beqI (a b : Int) : (a == b) = decide (a = b) := by by_cases h : a = b <;> simp [h]
theorem Br_decP {p : Prop} [Decidable p] {X Y : Prop} (h : p) (h1 : X) : Br (decide p) X Y := Br_true (decide_eq_true h) h1
theorem Br_decN {p : Prop} [Decidable p] {X Y : Prop} (h : ¬ p) (h1 : Y) : Br (decide p) X Y := Br_false (decide_eq_false h) h1
theorem Br_eqP {a b : Int} {X Y : Prop} (h : a = b) (h1 : X) : Br (a == b) X Y := Br_true (by simpa using h) h1
theorem Br_eqN {a b : Int} {X Y : Prop} (h : a ≠ b) (h1 : Y) : Br (a == b) X Y := Br_false (by simpa using h) h1
theorem Br_neP {a b : Int} {X Y : Prop} (h : a ≠ b) (h1 : X) : Br (a != b) X Y := Br_true (by simpa using h) h1
theorem Br_neN {a b : Int} {X Y : Prop} (h : a = b) (h1 : Y) : Br (a != b) X Y := Br_false (by simpa using h) h1
theorem Br_not {b : Bool} {X Y : Prop} (h : Br b Y X) : Br (!b) X Y := by cases b <;> exact h
theorem wrap_id {n : Int} (h0 : -9223372036854775808 ≤ n) (h1 : n ≤ 9223372036854775807) : IntKind.i64.wrap n = n := by rw [IntKind.wrap_i64]; omega
theorem fitI {a b : Int} (h : a = b) : TV.v (.int .i64 a) = TV.v (.int .i64 b) := by rw [h]
theorem fitI' {a b : Int} (h : a = b) : AV.t (TV.v (.int .i64 a)) = AV.t (TV.v (.int .i64 b)) := by rw [h]
theorem i_areBits_lit1 (x : Int) : A 56 [I x] (B (x != 0 && x != 1)) [.undef] := by
  refine ac [] [] (fn := Tryd.f56) rfl (by kernel_rfl) [0, 2] ?_
  (repeat' (first | refine Br_not ?_ | refine Br_decP (by assumption) ?_ | refine Br_decN (by assumption) ?_ | refine Br_dec (fun _ => ?_) (fun _ => ?_) | refine Br_eqP (by assumption) ?_ | refine Br_eqN (by assumption) ?_ | refine Br_eq (fun _ => ?_) (fun _ => ?_) | refine Br_neP (by assumption) ?_ | refine Br_neN (by assumption) ?_ | refine Br_ne (fun _ => ?_) (fun _ => ?_))) <;> refine isR (congrArg B ?_) rfl <;> simp [*]
abbrev ints (xs : List Int) : Rows := xs.map fun x => [TV.v (.int .i64 x)]
def findI {α : Type} (p : α → Bool) : List α → Int → Int
  | [], _ => -1
  | x :: xs, i => if p x then i else findI p xs (i + 1)
theorem ints_at {xs : List Int} {i : Nat} (hi : i < xs.length) : (ints xs)[(i : Int).toNat]? = some [TV.v (.int .i64 xs[i])] := by simp [ints, hi]
theorem indexFunc_ok (xs : List Int) (hx : xs.length < 9223372036854775807) (g : FuncId) (p : Int → Bool) (hg : ∀ x, A g [I x] (B (p x)) [.undef]) : A 65 [L 1 (ints xs), .fn g []] (I (findI p xs 0)) [.undef, .fn g []] := by
  refine ac [] [] (fn := Tryd.f65) rfl (by kernel_rfl) [0, 1, 4, 5, 7, 8, 9, 16] ?_
  refine lp (fun i => i ≤ xs.length ∧ findI p xs 0 = findI p (xs.drop i) i) (fun i => ⟨[(0, L 1 (ints xs)), (1, .fn g []), (4, I 0), (5, .undef), (7, I (ints xs).length), (8, I i), (9, .undef), (16, .undef)], [], [(1, .fn g [])]⟩) (fun i => xs.length - i) ⟨0, [], [], ⟨by omega, rfl⟩, ?_⟩ (fun i hI => ?_)
  · (refine And.intro trivial (And.intro rfl ?_); repeat' (first | exact trivial | exact rfl | refine And.intro ?_ ?_ | (refine fitI ?_; ((repeat rw [wrap_id (by omega) (by omega)]) <;> first | rfl | omega))))
  · obtain ⟨h0, hf⟩ := hI
    have hl : (ints xs).length = xs.length := by simp
    conv => whnf
    refine Br_intro (fun h1 => ?_) (fun h1 => ?_)
    · have hi : i < xs.length := by simpa using h1
      have hd : xs.drop i = xs[i] :: xs.drop (i + 1) := List.drop_eq_getElem_cons hi
      conv => whnf
      refine ⟨by omega, _, ints_at hi, ?_⟩
      refine ⟨_, _, hg _, ?_⟩
      conv => whnf
      refine Br_intro (fun h2 => ?_) (fun h2 => ?_)
      · conv => whnf
        refine isR (congrArg I ?_) rfl
        rw [hf, hd, findI, h2]; rfl
      · refine ⟨i + 1, [], [], ⟨by omega, ?_⟩, by omega, ?_⟩
        · rw [hf, hd, findI, h2]; rfl
        · (refine And.intro trivial (And.intro rfl ?_); repeat' (first | exact trivial | exact rfl | refine And.intro ?_ ?_ | (refine fitI ?_; ((repeat rw [wrap_id (by omega) (by omega)]) <;> first | rfl | omega))))
    · conv => whnf
      refine isR (congrArg I ?_) rfl
      have hi : i = xs.length := by simp at h1; omega
      rw [hf, hi, List.drop_length]; rfl
end Go.Proofs.YtaklcemgpinleaaDoor
