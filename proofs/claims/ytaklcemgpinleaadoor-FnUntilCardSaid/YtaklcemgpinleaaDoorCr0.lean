/- The abstract values of the layer, what one operation does to them, and the condition that a function's code comes to: definitions alone. -/
import Derived.Tactics
namespace Go.Proofs.YtaklcemgpinleaaDoor
open Go
set_option linter.unusedSimpArgs false
set_option linter.unusedVariables false
set_option linter.unnecessarySimpa false
set_option linter.unusedSectionVars false

/-- Names of the rows and boxes that a call holds for itself. -/
inductive Nm where
  | site (d : Nat) | inv (j : Nat) | arg (j : Nat) | sub (n : Nm) (c : Nat)
  deriving DecidableEq
def Nm.beq : Nm → Nm → Bool
  | .site a, .site b => Nat.beq a b
  | .inv a, .inv b => Nat.beq a b
  | .arg a, .arg b => Nat.beq a b
  | .sub n a, .sub m b => Nat.beq a b && Nm.beq n m
  | _, _ => false
def Nm.mem (n : Nm) : List Nm → Bool
  | [] => false
  | m :: ms => Nm.beq n m || Nm.mem n ms
def Nm.nodup : List Nm → Bool
  | [] => true
  | n :: ns => !(Nm.mem n ns) && Nm.nodup ns

/-- Values that never change: scalars, and slices as the lists of their elements, each the list of its cells. -/
inductive TV where
  | v (x : Value)
  | sl (k : Nat) (rows : List (List TV))
abbrev Rows := List (List TV)
/-- Local values: what never changes, and what the call holds for itself, by name. 'vec', 'vecp', 'box': at a call's border. -/
inductive AV where
  | undef
  | skip
  | t (x : TV)
  | own (n : Nm) (k : Nat)
  | part (n : Nm) (k i len : Nat)
  | ptr (n : Nm) (c : Nat)
  | eptr (n : Nm) (k i c : Nat)
  | tptr (r : List TV) (c : Nat)
  | glob (g i : Nat)
  | agg (cells : List AV)
  | tup (vs : List AV)
  | fn (f : FuncId) (caps : List AV)
  | vec (k : Nat) (rows : Rows)
  | vecp (k : Nat) (rows : Rows) (i len : Nat)
  | box (cells : List AV)
  | rowc (k : Nat) (rows : Rows)
  | lrow (frozen : Bool)
  | lbox (size : Nat)
abbrev I (n : Int) : AV := .t (.v (.int .i64 n))
abbrev B (b : Bool) : AV := .t (.v (.bool b))
abbrev S (s : ByteArray) : AV := .t (.v (.string s))
abbrev L (k : Nat) (rows : Rows) : AV := .t (.sl k rows)

/-- Places of an abstract state. -/
inductive Pl where
  | tmp (t : Nat) | cell (n : Nm) (c : Nat) | row (n : Nm) | live (n : Nm) | gh (j : Nat)
  deriving DecidableEq
def Pl.beq : Pl → Pl → Bool
  | .tmp a, .tmp b => Nat.beq a b
  | .cell n a, .cell m b => Nat.beq a b && Nm.beq n m
  | .row n, .row m => Nm.beq n m
  | .live n, .live m => Nm.beq n m
  | .gh a, .gh b => Nat.beq a b
  | _, _ => false
abbrev Ws := List (Pl × AV)
/-- A state: the slots that live on between regions, a region's own slots, and memory. -/
structure St where
  vars : List (Nat × AV)
  temps : List (Nat × AV)
  heap : List (Pl × AV)
def lookN (t : Nat) : List (Nat × AV) → Option AV
  | [] => none
  | (u, a) :: l => bif Nat.beq u t then some a else lookN t l
def putN (t : Nat) (a : AV) : List (Nat × AV) → Option (List (Nat × AV))
  | [] => none
  | (u, b) :: l => bif Nat.beq u t then some ((u, a) :: l) else match putN t a l with | some l' => some ((u, b) :: l') | none => none
def lookP (p : Pl) : List (Pl × AV) → AV
  | [] => .undef
  | (q, a) :: l => bif Pl.beq q p then a else lookP p l
def putP (p : Pl) (a : AV) : List (Pl × AV) → List (Pl × AV)
  | [] => [(p, a)]
  | (q, b) :: l => bif Pl.beq q p then (q, a) :: l else (q, b) :: putP p a l
def St.look (s : St) (p : Pl) : AV :=
  match p with
  | .tmp t => match lookN t s.vars with | some a => a | none => match lookN t s.temps with | some a => a | none => .undef
  | p => lookP p s.heap
def St.set (s : St) (p : Pl) (a : AV) : St :=
  match p with
  | .tmp t => match putN t a s.vars with | some l => ⟨l, s.temps, s.heap⟩ | none => ⟨s.vars, (t, a) :: s.temps, s.heap⟩
  | p => ⟨s.vars, s.temps, putP p a s.heap⟩
def St.sets (s : St) : Ws → St
  | [] => s
  | (p, a) :: ws => (s.set p a).sets ws
/-! the same, with what follows handed in: so that the state stands laid out at every step -/
def putNK {α : Sort _} (t : Nat) (a : AV) : List (Nat × AV) → (List (Nat × AV) → α) → α → α
  | [], _, e => e
  | (u, b) :: l, k, e => bif Nat.beq u t then k ((u, a) :: l) else putNK t a l (fun l' => k ((u, b) :: l')) e
def putPK {α : Sort _} (p : Pl) (a : AV) : List (Pl × AV) → (List (Pl × AV) → α) → α
  | [], k => k [(p, a)]
  | (q, b) :: l, k => bif Pl.beq q p then k ((q, a) :: l) else putPK p a l fun l' => k ((q, b) :: l')
def St.setK {α : Sort _} (s : St) (p : Pl) (a : AV) (k : St → α) : α :=
  match s with
  | ⟨v, t, h⟩ => match p with
    | .tmp u => putNK u a v (fun l => k ⟨l, t, h⟩) (k ⟨v, (u, a) :: t, h⟩)
    | .cell n c => putPK (.cell n c) a h fun h => k ⟨v, t, h⟩
    | .row n => putPK (.row n) a h fun h => k ⟨v, t, h⟩
    | .live n => putPK (.live n) a h fun h => k ⟨v, t, h⟩
    | .gh n => putPK (.gh n) a h fun h => k ⟨v, t, h⟩
def St.setsK {α : Sort _} (s : St) : Ws → (St → α) → α
  | [], k => k s
  | (p, a) :: ws, k => s.setK p a fun s => s.setsK ws k
/-- a region's own slots are forgotten at its end -/
def St.drop (s : St) : St := ⟨s.vars, [], s.heap⟩
def St.zero : St := ⟨[], [], []⟩

/-- What is known of a type. 'zero': at a border. -/
inductive TK where
  | scal | slice (e : Nat) | strct (fs : List (Nat × Nat)) | arr (n e : Nat) | other
structure TI where
  k : TK
  size : Nat
  bytes : Nat
  zero : AV
  ints : Bool
def TI.isAgg (t : TI) : Bool := match t.k with | .strct _ => true | .arr _ _ => true | _ => false
def AV.cells : AV → List AV | .agg cs => cs | a => [a]
def AV.tree : AV → Option TV | .t x => some x | .vec k [] => some (.sl k []) | _ => none
def AV.trees : List AV → Option (List TV)
  | [] => some []
  | a :: as => match a.tree, AV.trees as with | some x, some xs => some (x :: xs) | _, _ => none

/-! Terms are laid out ahead of their use, so that no reading is made twice. -/
def Nm.force {α : Sort _} : Nm → (Nm → α) → α
  | .site d, k => k (.site d) | .inv d, k => k (.inv d) | .arg d, k => k (.arg d)
  | .sub n c, k => n.force fun m => k (.sub m c)
def Pl.force {α : Sort _} : Pl → (Pl → α) → α
  | .tmp t, k => k (.tmp t) | .cell n c, k => n.force fun n => k (.cell n c) | .row n, k => n.force fun n => k (.row n) | .live n, k => n.force fun n => k (.live n) | .gh j, k => k (.gh j)
def AV.force0 {α : Sort _} : AV → (AV → α) → α
  | .undef, k => k .undef | .skip, k => k .skip | .t x, k => k (.t x) | .own n e, k => n.force fun n => k (.own n e) | .part n e i l, k => n.force fun n => k (.part n e i l)
  | .ptr n c, k => n.force fun n => k (.ptr n c) | .eptr n e i c, k => n.force fun n => k (.eptr n e i c) | .tptr r c, k => k (.tptr r c)
  | .glob g i, k => k (.glob g i) | .agg l, k => k (.agg l) | .tup l, k => k (.tup l) | .fn f l, k => k (.fn f l)
  | .vec e r, k => k (.vec e r) | .vecp e r i l, k => k (.vecp e r i l) | .box l, k => k (.box l) | .rowc e r, k => k (.rowc e r)
  | .lrow b, k => k (.lrow b) | .lbox n, k => k (.lbox n)
def AV.forceL0 {α : Sort _} : List AV → (List AV → α) → α
  | [], k => k [] | a :: as, k => a.force0 fun a => AV.forceL0 as fun as => k (a :: as)
def AV.force1 {α : Sort _} : AV → (AV → α) → α
  | .agg l, k => AV.forceL0 l fun l => k (.agg l)
  | .box l, k => AV.forceL0 l fun l => k (.box l)
  | a, k => a.force0 k
def AV.forceL1 {α : Sort _} : List AV → (List AV → α) → α
  | [], k => k [] | a :: as, k => a.force1 fun a => AV.forceL1 as fun as => k (a :: as)
def AV.force {α : Sort _} : AV → (AV → α) → α
  | .tup l, k => AV.forceL1 l fun l => k (.tup l)
  | .fn f l, k => AV.forceL1 l fun l => k (.fn f l)
  | a, k => a.force1 k
def forceW {α : Sort _} : Ws → (Ws → α) → α
  | [], k => k []
  | (p, a) :: ws, k => p.force fun p => a.force fun a => forceW ws fun ws => k ((p, a) :: ws)
def forceV {α : Sort _} : List (Nat × AV) → (List (Nat × AV) → α) → α
  | [], k => k []
  | (t, a) :: l, k => a.force fun a => forceV l fun l => k ((t, a) :: l)
def forceT {α : Sort _} : List TV → (List TV → α) → α
  | [], k => k [] | x :: xs, k => forceT xs fun xs => k (x :: xs)

/-- One operation: what it reads, what it needs, what it writes. -/
inductive Rd where
  | done (ws : Ws)
  | get (p : Pl) (k : AV → Rd)
  | need (c : Prop) (k : Rd)
  | br (b : Bool) (t e : Rd)
  | elem (rows : Rows) (i : Nat) (k : List TV → Rd)
  | ex (P : AV → List AV → Prop) (k : AV → List AV → Rd)
def Rd.fail : Rd := .need False (.done [])
def Br (b : Bool) (X Y : Prop) : Prop := match b with | true => X | false => Y
def Rd.wp : Rd → St → List Pl → (List Pl → Ws → Prop) → Prop
  | .done ws, _, R, K => forceW ws fun ws => K R ws
  | .get p k, s, R, K => p.force fun p => (s.look p).force fun a => (k a).wp s (p :: R) K
  | .need c k, s, R, K => c ∧ k.wp s R K
  | .br b t e, s, R, K => Br b (t.wp s R K) (e.wp s R K)
  | .elem rows i k, s, R, K => ∃ r, rows[i]? = some r ∧ (k r).wp s R K
  | .ex P k, s, R, K => ∃ r outs, P r outs ∧ (k r outs).wp s R K

/-- a zero value, at a border -/
def zeroC : AV → Value → Bool
  | .t (.v (.int K x)), .int K' y => decide (K = K') && decide (x = y)
  | .t (.v (.bool x)), .bool y => x == y
  | .t (.v (.string x)), .string y => x.data.isEmpty && y.data.isEmpty
  | .vec _ [], .slice none 0 0 => true
  | _, _ => false
def zeroL : List AV → List Value → Bool
  | [], [] => true
  | a :: as, v :: vs => zeroC a v && zeroL as vs
  | _, _ => false
structure Cx where
  Γ : Nat → TI
  /-- parameter j of function f is handed over for itself -/
  exact : FuncId → Nat → Bool
  /-- f's results are handed back for the caller to keep -/
  keep : FuncId → Bool
  G : Nat → Option Rows
  ac : FuncId → List AV → AV → List AV → Prop

/-! Handing in -/
def impC (n : Nm) : AV → AV × Ws
  | .vec k rows => (.own n k, [(.live n, .lrow false), (.row n, .rowc k rows)])
  | .vecp k rows i len => (.part n k i len, [(.live n, .lrow false), (.row n, .rowc k rows)])
  | a => (a, [])
def impCs (n : Nm) : Nat → List AV → List AV × Ws
  | _, [] => ([], [])
  | c, a :: as => ((impC (.sub n c) a).1 :: (impCs n (c + 1) as).1, (impC (.sub n c) a).2 ++ (impCs n (c + 1) as).2)
def cellsW (n : Nm) : Nat → List AV → Ws
  | _, [] => []
  | c, a :: as => (.cell n c, a) :: cellsW n (c + 1) as
def impT (n : Nm) : AV → AV × Ws
  | .agg cs => (.agg (impCs n 0 cs).1, (impCs n 0 cs).2)
  | .box cs => (.ptr n 0, (.live n, .lbox cs.length) :: (cellsW n 0 (impCs n 0 cs).1 ++ (impCs n 0 cs).2))
  | a => impC n a
def impTs (n : Nm) : Nat → List AV → List AV × Ws
  | _, [] => ([], [])
  | c, a :: as => ((impT (.sub n c) a).1 :: (impTs n (c + 1) as).1, (impT (.sub n c) a).2 ++ (impTs n (c + 1) as).2)
def impR (n : Nm) : AV → AV × Ws
  | .tup vs => (.tup (impTs n 0 vs).1, (impTs n 0 vs).2)
  | .fn f vs => (.fn f (impTs n 0 vs).1, (impTs n 0 vs).2)
  | a => impT n a
/-- names that are laid anew must be free -/
def fresh (k : Rd) : Ws → Rd
  | [] => k
  | (.live n, _) :: ws => .get (.live n) fun | .undef => fresh k ws | _ => .fail
  | _ :: ws => fresh k ws

/-! Handing over: the value at the border, the names that go with it, the names that are frozen -/
def frW : List Nm → Ws
  | [] => []
  | n :: ns => (.live n, .lrow true) :: frW ns
def deadW : List Nm → Ws
  | [] => []
  | n :: ns => (.live n, .skip) :: (.row n, .undef) :: deadW ns
def Nm.apart : List Nm → List Nm → Bool
  | [], _ => true
  | n :: ns, zs => !(Nm.mem n zs) && Nm.apart ns zs
def expC (ex : Bool) (a : AV) (k : AV → List Nm → List Nm → Rd) : Rd :=
  match a with
  | .t x => k (.t x) [] []
  | .own n _ => .get (.live n) fun
    | .lrow fr => .get (.row n) fun
      | .rowc k' rows => bif !fr && ex then k (.vec k' rows) [n] [] else k (.t (.sl k' rows)) [] [n]
      | _ => .fail
    | _ => .fail
  | .part n _ i len => .get (.live n) fun
    | .lrow fr => .get (.row n) fun
      | .rowc k' rows => bif !fr && ex then k (.vecp k' rows i len) [n] [] else k (.t (.sl k' ((rows.drop i).take len))) [] [n]
      | _ => .fail
    | _ => .fail
  | _ => .fail
def expCs (ex : Bool) : List AV → (List AV → List Nm → List Nm → Rd) → Rd
  | [], k => k [] [] []
  | a :: as, k => expC ex a fun y ns zs => expCs ex as fun ys ns' zs' => k (y :: ys) (ns ++ ns') (zs ++ zs')
def getCells (n : Nm) : Nat → Nat → (List AV → Rd) → Rd
  | _, 0, k => k []
  | c, m + 1, k => .get (.cell n c) fun a => getCells n (c + 1) m fun l => k (a :: l)
def expT (ex : Bool) (a : AV) (k : AV → List Nm → List Nm → Rd) : Rd :=
  match a with
  | .agg cs => expCs ex cs fun ys ns zs => k (.agg ys) ns zs
  | .ptr n 0 => .get (.live n) fun
    | .lbox sz => getCells n 0 sz fun cs => expCs true cs fun ys ns zs => k (.box ys) (n :: ns) zs
    | _ => .fail
  | a => expC ex a k
def expTs (ex : Bool) : List AV → (List AV → List Nm → List Nm → Rd) → Rd
  | [], k => k [] [] []
  | a :: as, k => expT ex a fun y ns zs => expTs ex as fun ys ns' zs' => k (y :: ys) (ns ++ ns') (zs ++ zs')
def expR (ex : Bool) (a : AV) (k : AV → List Nm → List Nm → Rd) : Rd :=
  match a with
  | .fn f vs => expTs ex vs fun ys ns zs => k (.fn f ys) ns zs
  | .tup vs => expTs ex vs fun ys ns zs => k (.tup ys) ns zs
  | a => expT ex a k
def expArgs (ex : Nat → Bool) : Nat → List AV → (List AV → List Nm → List Nm → Rd) → Rd
  | _, [], k => k [] [] []
  | j, a :: as, k => expR (ex j) a fun y ns zs => expArgs ex (j + 1) as fun ys ns' zs' => k (y :: ys) (ns ++ ns') (zs ++ zs')

/-! What comes back of what was handed over: the local value, what was handed over, what is there behind the call. 'k': what is written; which of it are new names. -/
def backC (a y o : AV) (k : Ws → Ws → Rd) : Rd :=
  match a, y, o with
  | .own n _, .vec e _, .vec e' rows => bif Nat.beq e e' then k [(.live n, .lrow false), (.row n, .rowc e' rows)] [] else .fail
  | .part n _ _ _, .vecp e old _ _, .vecp e' rows _ _ => bif Nat.beq e e' then .need (rows.length = old.length) (k [(.live n, .lrow false), (.row n, .rowc e' rows)] []) else .fail
  | _, _, _ => k [] []
def backCs : List AV → List AV → List AV → (Ws → Ws → Rd) → Rd
  | a :: as, y :: ys, o :: os, k => backC a y o fun w1 i1 => backCs as ys os fun w2 i2 => k (w1 ++ w2) (i1 ++ i2)
  | _, _, _, k => k [] []
def backT (m : Nm) (a y o : AV) (k : Ws → Ws → Rd) : Rd :=
  match a, y, o with
  | .agg cs, .agg ys, .agg os => backCs cs ys os k
  | .ptr n _, .box _, .box os => k ((impCs m 0 os).2 ++ ((.live n, .lbox os.length) :: cellsW n 0 (impCs m 0 os).1)) (impCs m 0 os).2
  | .own n e, y, o => backC (.own n e) y o k
  | .part n e i l, y, o => backC (.part n e i l) y o k
  | _, _, _ => k [] []
def backTs (m : Nm) : Nat → List AV → List AV → List AV → (Ws → Ws → Rd) → Rd
  | c, a :: as, y :: ys, o :: os, k => backT (.sub m c) a y o fun w1 i1 => backTs m (c + 1) as ys os fun w2 i2 => k (w1 ++ w2) (i1 ++ i2)
  | _, _, _, _, k => k [] []
def backR (m : Nm) (a y o : AV) (k : Ws → Ws → Rd) : Rd :=
  match a, y, o with
  | .fn _ vs, .fn _ ys, .fn _ os => backTs m 0 vs ys os k
  | .fn _ _, _, _ => k [] []
  | .tup _, _, _ => .fail
  | a, y, o => backT m a y o k
def backArgs (m : Nm) : Nat → List AV → List AV → List AV → (Ws → Ws → Rd) → Rd
  | j, a :: as, y :: ys, o :: os, k => backR (.sub m j) a y o fun w1 i1 => backArgs m (j + 1) as ys os fun w2 i2 => k (w1 ++ w2) (i1 ++ i2)
  | _, _, _, _, k => k [] []
def liveN : Ws → List Nm
  | [] => []
  | (.live n, _) :: ws => n :: liveN ws
  | _ :: ws => liveN ws

section
variable (C : Cx) (N : Nat)

def fin (o : Oper) (a : AV) (ws : Ws) : Rd :=
  match o.dst with
  | some d => bif Nat.blt d N then .done (ws ++ [(.tmp d, a)]) else .fail
  | none => .done ws

/-- A constant, at a border. -/
def ofVal (T : Nat) : Value → AV
  | .slice none 0 0 => match (C.Γ T).k with | .slice e => .vec (C.Γ e).size [] | _ => .undef
  | .agg cs => match (C.Γ T).zero with | .agg zs => bif zeroL zs cs.toList then .agg zs else .undef | _ => .undef
  | .bool b => .t (.v (.bool b))
  | .int k n => .t (.v (.int k n))
  | .string s => .t (.v (.string s))
  | _ => .undef
def isDef : AV → Bool | .undef => false | .skip => false | _ => true
def isCell : AV → Bool | .t _ => true | .own _ _ => true | .part _ _ _ _ => true | .ptr _ _ => true | .eptr _ _ _ _ => true | .tptr _ _ => true | .glob _ _ => true | _ => false
def allCell : List AV → Bool | [] => true | a :: as => isCell a && allCell as
def boxy : AV → Bool | .agg _ => true | a => isCell a
def noSkip : List AV → Bool | [] => true | .skip :: _ => false | _ :: as => noSkip as
def noFn : List AV → Bool | [] => true | .fn _ _ :: _ => false | .tup _ :: _ => false | _ :: as => noFn as
def treeCell : AV → AV | .vec k [] => .t (.sl k []) | a => a
/-- An operand that is read alone. -/
def opd (T : Nat) (o : Operand) (k : AV → Rd) : Rd :=
  match o with
  | .tmp t => .get (.tmp t) k
  | .const x => match ofVal C T x with | .agg cs => k (.agg (cs.map treeCell)) | a => k (treeCell a)
  | .global g => k (.glob g 0)
  | .func f => k (.fn f [])
/-- An operand that may be a constant with rows of its own. -/
def opdI (n : Nm) (T : Nat) (o : Operand) (k : AV → Ws → Rd) : Rd :=
  match o with
  | .const x => fresh (k (impT n (ofVal C T x)).1 (impT n (ofVal C T x)).2) (impT n (ofVal C T x)).2
  | o => opd C T o fun a => k a []
def opds : List Operand → List Nat → (List AV → Rd) → Rd
  | o :: os, T :: Ts, k => opd C T o fun a => opds os Ts fun as => k (a :: as)
  | [], _, k => k []
  | _, _, _ => .fail

def IntKind.eq (a b : IntKind) : Bool := match a, b with
  | .i8, .i8 | .i16, .i16 | .i32, .i32 | .i64, .i64 | .u8, .u8 | .u16, .u16 | .u32, .u32 | .u64, .u64 => true
  | _, _ => false
def cmpInts : List AV → List AV → Option Bool
  | [], [] => some true
  | .t (.v (.int K a)) :: as, .t (.v (.int K' b)) :: bs => bif IntKind.eq K K' then (match cmpInts as bs with | some r => some ((a == b) && r) | none => none) else none
  | _, _ => none
def TI.isS (t : TI) : Bool := match t.k, t.zero with | .scal, .t (.v (.string _)) => true | _, _ => false
def elSz (T k : Nat) : Bool := match (C.Γ T).k with | .slice e => Nat.beq (C.Γ e).size k | _ => false
def isSl (T : Nat) : Bool := match (C.Γ T).k with | .slice _ => true | _ => false
def TI.isB (t : TI) : Bool := match t.k, t.zero with | .scal, .t (.v (.bool _)) => true | _, _ => false

/-- bits of two numbers -/
def bitsOf (op : BinOp) (k : IntKind) (x y : Int) : Option Int :=
  match op with
  | .and => some (k.wrap (BitVec.ofInt k.bits x &&& BitVec.ofInt k.bits y).toNat)
  | .or => some (k.wrap (BitVec.ofInt k.bits x ||| BitVec.ofInt k.bits y).toNat)
  | .xor => some (k.wrap (BitVec.ofInt k.bits x ^^^ BitVec.ofInt k.bits y).toNat)
  | _ => none
def abin (tb : Bool) (op : BinOp) (x y : Value) (k : AV → Rd) : Rd :=
  match x, y with
  | .int K a, .int K' b =>
    bif IntKind.eq K K' then
      match op with
      | .add => k (.t (.v (.int K (K.wrap (a + b)))))
      | .sub => k (.t (.v (.int K (K.wrap (a - b)))))
      | .mul => k (.t (.v (.int K (K.wrap (a * b)))))
      | .quo => .need (b ≠ 0) (k (.t (.v (.int K (K.wrap (a.tdiv b))))))
      | .rem => .need (b ≠ 0) (k (.t (.v (.int K (a.tmod b)))))
      | .eql => k (.t (.v (.bool (a == b))))
      | .neq => k (.t (.v (.bool (a != b))))
      | .lss => k (.t (.v (.bool (decide (a < b)))))
      | .leq => k (.t (.v (.bool (decide (a ≤ b)))))
      | .gtr => k (.t (.v (.bool (decide (b < a)))))
      | .geq => k (.t (.v (.bool (decide (b ≤ a)))))
      | op => match bitsOf op K a b with | some c => k (.t (.v (.int K c))) | none => .fail
    else .fail
  | .string a, .string b =>
    match op with
    | .add => .need (((a.size + b.size : Nat) : Int) ≤ 9223372036854775807) (k (.t (.v (.string (a ++ b)))))
    | .eql => k (.t (.v (.bool (a.toList == b.toList))))
    | .neq => k (.t (.v (.bool (!(a.toList == b.toList)))))
    | _ => .fail
  | .bool a, .bool b => bif tb then
      match op with
      | .eql => k (.t (.v (.bool (a == b))))
      | .neq => k (.t (.v (.bool (!(a == b)))))
      | _ => .fail
    else .fail
  | _, _ => .fail
def lenOf (T : Nat) (a : AV) (k : Nat → Rd) : Rd :=
  match a with
  | .t (.v (.string s)) => bif (C.Γ T).isS then k s.size else .fail
  | .t (.sl _ rows) => bif isSl C T then k rows.length else .fail
  | .own n _ => bif isSl C T then .get (.live n) fun
    | .lrow _ => .get (.row n) fun | .rowc _ rows => k rows.length | _ => .fail
    | _ => .fail
    else .fail
  | .part n _ _ len => bif isSl C T then .get (.live n) fun | .lrow _ => k len | _ => .fail
    else .fail
  | _ => .fail
def rowsOf (a : AV) (k : Nat → Rows → Rd) : Rd :=
  match a with
  | .t (.sl k' rows) => k k' rows
  | .own n _ => .get (.live n) fun
    | .lrow _ => .get (.row n) fun | .rowc k' rows => k k' rows | _ => .fail
    | _ => .fail
  | .part n _ i len => .get (.live n) fun
    | .lrow _ => .get (.row n) fun | .rowc k' rows => k k' ((rows.drop i).take len) | _ => .fail
    | _ => .fail
  | _ => .fail
def asI (a : AV) (k : Int → Rd) : Rd := match a with | .t (.v (.int .i64 n)) => k n | _ => .fail
def takeN : Nat → List TV → Option (List TV)
  | 0, _ => some []
  | n + 1, x :: xs => match takeN n xs with | some l => some (x :: l) | none => none
  | _, _ => none
/-- a part of an element's cells, as a value of type T -/
def partOf (T : Nat) (r : List TV) (c : Nat) (k : AV → Rd) : Rd :=
  match takeN (C.Γ T).size (r.drop c) with
  | some l => bif (C.Γ T).isAgg then k (.agg (l.map .t)) else match l with | [x] => k (.t x) | _ => .fail
  | none => .fail
def splice (r : List TV) (c : Nat) (l : List TV) : List TV := r.take c ++ l ++ r.drop (c + l.length)
def offOf (T f : Nat) (k : Nat → Nat → Rd) : Rd :=
  match (C.Γ T).k with
  | .strct fs => match fs[f]? with
    | some (ft, off) => bif Nat.blt 0 (C.Γ ft).size then k ft off else .fail
    | none => .fail
  | _ => .fail

def aload (T : Nat) (a : AV) (k : AV → Rd) : Rd :=
  match a with
  | .ptr n c => .get (.live n) fun
    | .lbox sz => bif Nat.ble (c + (C.Γ T).size) sz then
        getCells n c (C.Γ T).size fun cs => bif (C.Γ T).isAgg then bif noSkip cs then k (.agg cs) else .fail else match cs with | [a] => bif isDef a then k a else .fail | _ => .fail
      else .fail
    | _ => .fail
  | .eptr n _ i c => .get (.live n) fun
    | .lrow _ => .get (.row n) fun | .rowc _ rows => .elem rows i fun r => partOf C T r c k | _ => .fail
    | _ => .fail
  | .tptr r c => partOf C T r c k
  | .glob g i => match C.G g with | some rows => .elem rows i fun r => partOf C T r 0 k | none => .fail
  | _ => .fail
def astore (o : Oper) (T : Nat) (a : AV) (y : AV) (ws0 : Ws) : Rd :=
  match a with
  | .ptr n c => .get (.live n) fun
    | .lbox sz => bif Nat.blt 0 (C.Γ T).size && (Nat.ble (c + (C.Γ T).size) sz && (Nat.beq y.cells.length (C.Γ T).size && allCell y.cells)) then fin N o .undef (ws0 ++ cellsW n c y.cells) else .fail
    | _ => .fail
  | .eptr n k' i c => match ws0 with
    | [] => .get (.live n) fun
      | .lrow false => .get (.row n) fun
        | .rowc _ rows => expCs false y.cells fun ys _ zs => match AV.trees ys with
          | some l => bif Nat.blt 0 (C.Γ T).size && (Nat.beq l.length (C.Γ T).size && (boxy y && (Nat.ble (c + l.length) k' && !(Nm.mem n zs)))) then
              bif Nat.beq l.length k' then .need (i < rows.length) (fin N o .undef (frW zs ++ [(.row n, .rowc k' (rows.set i l))]))
              else .elem rows i fun r => fin N o .undef (frW zs ++ [(.row n, .rowc k' (rows.set i (splice r c l)))])
            else .fail
          | none => .fail
        | _ => .fail
      | _ => .fail
    | _ => .fail
  | _ => .fail
def asliceA (T : Nat) (x : AV) (lo hi : Option Int) (k : AV → Rd) : Rd :=
  match x with
  | .t (.v (.string s)) => bif (C.Γ T).isS then
    let h := hi.getD s.size
    let l := lo.getD 0
    .need (0 ≤ l ∧ l ≤ h ∧ h ≤ s.size) (k (.t (.v (.string (s.extract l.toNat h.toNat)))))
    else .fail
  | .t (.sl e rows) => bif elSz C T e then match lo, hi with
    | none, none => k (.t (.sl e rows))
    | some l, none => .need (0 ≤ l ∧ l ≤ rows.length) (k (.t (.sl e (rows.drop l.toNat))))
    | none, some h => .need (0 ≤ h ∧ h ≤ rows.length) (k (.t (.sl e (rows.take h.toNat))))
    | some l, some h => .need (0 ≤ l ∧ l ≤ h ∧ h ≤ rows.length) (k (.t (.sl e ((rows.take h.toNat).drop l.toNat))))
    else .fail
  | .own n e => bif elSz C T e then .get (.live n) fun
    | .lrow _ => .get (.row n) fun
      | .rowc _ rows =>
        let h := hi.getD rows.length
        let l := lo.getD 0
        .need (0 ≤ l ∧ l ≤ h ∧ h ≤ rows.length) (k (.part n e l.toNat (h.toNat - l.toNat)))
      | _ => .fail
    | _ => .fail
    else .fail
  | .part n e i len => bif elSz C T e then .get (.live n) fun
    | .lrow _ =>
        let h := hi.getD len
        let l := lo.getD 0
        .need (0 ≤ l ∧ l ≤ h ∧ h ≤ len) (k (.part n e (i + l.toNat) (h.toNat - l.toNat)))
    | _ => .fail
    else .fail
  | .glob g 0 => match (C.Γ T).k, C.G g with
    | .arr m e, some rows => bif Nat.beq m rows.length && Nat.beq (C.Γ e).size 1 then match lo, hi with
      | none, none => k (.t (.sl 1 rows))
      | some l, none => .need (0 ≤ l ∧ l ≤ rows.length) (k (.t (.sl 1 (rows.drop l.toNat))))
      | _, _ => .fail
      else .fail
    | _, _ => .fail
  | _ => .fail
def asIO (a : Option AV) (k : Option Int → Rd) : Rd := match a with | none => k none | some a => asI a fun n => k (some n)
def opdO (o : Option Operand) (k : Option Int → Rd) : Rd := match o with | none => k none | some x => opd C 0 x fun a => asI a fun n => k (some n)
def aindexAddr (T : Nat) (x : AV) (i : Int) (k : AV → Rd) : Rd :=
  match x with
  | .t (.sl e rows) => bif elSz C T e then .need (0 ≤ i) (.elem rows i.toNat fun r => k (.tptr r 0)) else .fail
  | .own n e => bif elSz C T e then .get (.live n) fun
    | .lrow _ => .get (.row n) fun | .rowc _ rows => .need (0 ≤ i ∧ i < rows.length) (k (.eptr n e i.toNat 0)) | _ => .fail
    | _ => .fail
    else .fail
  | .part n e j len => bif elSz C T e then .get (.live n) fun
    | .lrow _ => .need (0 ≤ i ∧ i < len) (k (.eptr n e (j + i.toNat) 0))
    | _ => .fail
    else .fail
  | .glob g 0 => match (C.Γ T).k, C.G g with
    | .arr m e, some rows => bif Nat.beq m rows.length && Nat.beq (C.Γ e).size 1 then .need (0 ≤ i ∧ i < rows.length) (k (.glob g i.toNat)) else .fail
    | _, _ => .fail
  | _ => .fail
def zrow (T : Nat) : Option (List TV) := AV.trees (C.Γ T).zero.cells
def fillRows : Rows → List (Nat × List TV) → Rows
  | rows, [] => rows
  | rows, (i, r) :: ps => fillRows (rows.set i r) ps
def partsT (e len : Nat) : List (Nat × Operand) → (List (Nat × List TV) → List Nm → Rd) → Rd
  | [], k => k [] []
  | (i, x) :: ps, k => opd C e x fun a => expCs false a.cells fun ys _ zs => match AV.trees ys with
    | some l => bif Nat.beq l.length (C.Γ e).size && (boxy a && Nat.blt i len) then partsT e len ps fun q zs' => k ((i, l) :: q) (zs ++ zs') else .fail
    | none => .fail
def forceR {α : Sort _} : Rows → (Rows → α) → α
  | [], k => k [] | r :: rs, k => forceT r fun r => forceR rs fun rs => k (r :: rs)
def putCells : List AV → Nat → List AV → List AV
  | cs, _, [] => cs
  | cs, c, a :: as => putCells (cs.set c a) (c + 1) as
def partsB (fs : List (Nat × Nat)) : List (Nat × Operand) → List AV → (List AV → Rd) → Rd
  | [], cs, k => k cs
  | (i, x) :: ps, cs, k => match fs[i]? with
    | some (ft, off) => opd C ft x fun a => bif Nat.beq a.cells.length (C.Γ ft).size && (boxy a && Nat.ble (off + a.cells.length) cs.length) then partsB fs ps (putCells cs off a.cells) k else .fail
    | none => .fail
def fsOK : List (Nat × Nat) → Bool | [] => true | (t, _) :: fs => Nat.blt 0 (C.Γ t).size && fsOK fs
def bytesOf (s : ByteArray) : Rows := s.data.toList.map fun b => [TV.v (.int .u8 b.toNat)]
def byteRow : List TV → Option Int | [.v (.int .u8 n)] => some n | _ => none
/-- the rows are the bytes of a string -/
def BytesAre (rows : Rows) (r : AV) (outs : List AV) : Prop := ∃ s : ByteArray, r = .t (.v (.string s)) ∧ rows = bytesOf s ∧ outs = []
def TI.isU8 (t : TI) : Bool := match t.k, t.zero with | .scal, .t (.v (.int .u8 _)) => true | _, _ => false
def bytesToStr (o : Oper) (src dst : Nat) (a : AV) : Rd :=
  match (C.Γ src).k, (C.Γ dst).k, (C.Γ dst).zero with
  | .slice e, .scal, .t (.v (.string _)) => bif (C.Γ e).isU8 then rowsOf a fun k rows => bif Nat.beq k 1 then .ex (BytesAre rows) fun r _ => match r with
      | .t (.v (.string s)) => fin N o (.t (.v (.string s))) []
      | _ => .fail
      else .fail else .fail
  | _, _, _ => .fail
def newRowW (n : Nm) (k : Nat) (rows : Rows) : Ws := [(.live n, .lrow false), (.row n, .rowc k rows)]
def minI (a b : Int) : Int := if b < a then b else a
def maxI (a b : Int) : Int := if a < b then b else a

def items (sz U : Nat) (x : AV) (k : Rows → Rd) : Rd :=
  match x with
  | .t (.v (.string s)) => bif (C.Γ U).isS && Nat.beq sz 1 then k (bytesOf s) else .fail
  | x => bif isSl C U then rowsOf x fun k' rows => bif Nat.beq k' sz then k rows else .fail else .fail
def elOK (e : Nat) : Bool := isDef (C.Γ e).zero && (Nat.blt 0 (C.Γ e).bytes && Nat.blt 0 (C.Γ e).size)
def aappend (me : Nm) (o : Oper) (e U : Nat) (a x : AV) : Rd :=
  match a with
  | .own n k => bif elOK C e && Nat.beq k (C.Γ e).size then .get (.live n) fun
    | .lrow false => .get (.row n) fun
      | .rowc _ rows => items C k U x fun new => .need ((rows.length + new.length) * (C.Γ e).bytes ≤ 140737488355328)
          (fresh (fin N o (.own me k) (deadW [n] ++ newRowW me k (rows ++ new))) (newRowW me k []))
      | _ => .fail
    | _ => .fail
    else .fail
  | .part n k 0 len => bif elOK C e && Nat.beq k (C.Γ e).size then .get (.live n) fun
    | .lrow false => .get (.row n) fun
      | .rowc _ rows => items C k U x fun new => .need ((len + new.length) * (C.Γ e).bytes ≤ 140737488355328)
          (fresh (fin N o (.own me k) (deadW [n] ++ newRowW me k (rows.take len ++ new))) (newRowW me k []))
      | _ => .fail
    | _ => .fail
    else .fail
  | _ => .fail
def abuiltin (me : Nm) (o : Oper) (b : Builtin) (Ts : List Nat) (xs : List AV) : Rd :=
  match b, Ts, xs with
  | .len, [T], [a] => lenOf C T a fun n => fin N o (I n) []
  | .min, _, [.t (.v (.int K a)), .t (.v (.int _ b))] => fin N o (.t (.v (.int K (minI a b)))) []
  | .max, _, [.t (.v (.int K a)), .t (.v (.int _ b))] => fin N o (.t (.v (.int K (maxI a b)))) []
  | .append, [T, U], [a, x] => match (C.Γ T).k with | .slice e => aappend C N me o e U a x | _ => .fail
  | .clear, [T], [.own n k] => match (C.Γ T).k with
    | .slice e => match zrow C e with
      | some z => bif Nat.beq (C.Γ e).size k then .get (.live n) fun
        | .lrow false => .get (.row n) fun
          | .rowc _ rows => fin N o (.tup []) [(.row n, .rowc k (rows.map fun _ => z))]
          | _ => .fail
        | _ => .fail
        else .fail
      | none => .fail
    | _ => .fail
  | _, _, _ => .fail

def acall (me : Nm) (o : Oper) (f : AV) (args : List AV) : Rd :=
  match f with
  | .fn g caps =>
    expArgs (C.exact g) 0 (args ++ caps) fun ys ns zs =>
      bif Nm.nodup ns && Nm.apart ns zs then
        .ex (C.ac g ys) fun r outs => backArgs (.sub me 1000000) 0 (args ++ caps) ys outs fun bk im =>
          bif Nm.nodup (liveN (im ++ (impR me r).2)) then
            fresh (fin N o (impR me r).1 (frW zs ++ (deadW ns ++ (bk ++ (impR me r).2)))) (im ++ (impR me r).2)
          else .fail
      else .fail
  | _ => .fail

def opAt (me : Nm) (o : Oper) : Rd :=
  match o.op with
  | .move x | .assign x => opdI C me o.type x fun a ws => fin N o a ws
  | .pick c a b => opd C 0 c fun
    | .t (.v (.bool t)) => .br t (opd C o.type a fun a => fin N o a []) (opd C o.type b fun a => fin N o a [])
    | _ => .fail
  | .alloc T => bif isDef (C.Γ T).zero then fresh (fin N o (impT me (.box (C.Γ T).zero.cells)).1 (impT me (.box (C.Γ T).zero.cells)).2) (impT me (.box (C.Γ T).zero.cells)).2 else .fail
  | .box T x => opdI C (.sub me 1000001) T x fun a ws => bif boxy a then
      fresh (fin N o (.ptr me 0) (ws ++ ((.live me, .lbox a.cells.length) :: cellsW me 0 a.cells))) [(.live me, .undef)] else .fail
  | .build T ps => match (C.Γ T).k with
    | .strct fs => bif isDef (C.Γ T).zero && fsOK C fs then partsB C fs ps.toList (C.Γ T).zero.cells fun cs => fresh (fin N o (.agg (impCs me 0 cs).1) (impCs me 0 cs).2) (impCs me 0 cs).2 else .fail
    | _ => .fail
  | .buildSlice T len ps => match (C.Γ T).k with
    | .slice e => match zrow C e with
      | some z => bif Nat.ble (len * (C.Γ e).size) 16777216 then partsT C e len ps.toList fun q zs => forceR (fillRows (List.replicate len z) q) fun rows => fresh (fin N o (.own me (C.Γ e).size) (frW zs ++ newRowW me (C.Γ e).size rows)) (newRowW me 0 [])
        else .fail
      | none => .fail
    | _ => .fail
  | .load T x => opd C 0 x fun a => aload C T a fun y => fin N o y []
  | .store T x y => opd C 0 x fun a => opdI C (.sub me 1000002) T y fun b ws => astore C N o T a b ws
  | .nilCheck x => opd C 0 x fun a => match a with
    | .ptr _ _ | .eptr _ _ _ _ | .tptr _ _ | .glob _ _ => fin N o a []
    | .fn f caps => fin N o (.fn f caps) []
    | _ => .fail
  | .binOp op T x y yT => opd C T x fun a => opd C yT y fun b => match a, b with
    | .t (.v a), .t (.v b) => abin (C.Γ T).isB op a b fun r => fin N o r []
    | .agg xs, .agg ys => bif (C.Γ T).ints && Nat.beq xs.length (C.Γ T).size then match op, cmpInts xs ys with
      | .eql, some r => fin N o (B r) []
      | .neq, some r => fin N o (B (!r)) []
      | _, _ => .fail
      else .fail
    | _, _ => .fail
  | .unOp op _ x => opd C o.type x fun a => match op, a with
    | .not, .t (.v (.bool b)) => fin N o (B (!b)) []
    | .neg, .t (.v (.int K n)) => fin N o (.t (.v (.int K (K.wrap (0 - n))))) []
    | _, _ => .fail
  | .convert src dst x => bif Nat.blt 0 (C.Γ src).size then opd C src x fun a => match a with
    | .t (.v (.int _ n)) => match (C.Γ dst).k, (C.Γ dst).zero with
      | .scal, .t (.v (.int K _)) => fin N o (.t (.v (.int K (K.wrap n)))) []
      | _, _ => .fail
    | .t (.v (.string s)) => match (C.Γ dst).k, (C.Γ dst).zero with
      | .scal, .t (.v (.string _)) => fin N o (.t (.v (.string s))) []
      | _, _ => .fail
    | a => bytesToStr C N o src dst a
    else .fail
  | .makeFunc (.func f) fs cs => bif Nat.beq fs.size 0 then opds C cs.toList (List.replicate cs.size 0) fun as => bif noFn as then fin N o (.fn f as) [] else .fail else .fail
  | .makeSlice T l c => match (C.Γ T).k with
    | .slice e => match zrow C e with
      | some z => opd C 0 l fun l => opd C 0 c fun c => asI l fun l => asI c fun c =>
          .need (0 ≤ l ∧ l ≤ c ∧ c ≤ 140737488355328 ∧ c * (C.Γ e).bytes ≤ 140737488355328)
            (fresh (fin N o (.own me (C.Γ e).size) (newRowW me (C.Γ e).size (List.replicate l.toNat z))) (newRowW me 0 []))
      | none => .fail
    | _ => .fail
  | .slice T x lo hi none => opd C 0 x fun a => opdO C lo fun l => opdO C hi fun h => asliceA C T a l h fun r => fin N o r []
  | .fieldAddr T x f => opd C 0 x fun a => offOf C T f fun _ off => match a with
    | .ptr n c => fin N o (.ptr n (c + off)) []
    | .eptr n k i c => fin N o (.eptr n k i (c + off)) []
    | .tptr r c => fin N o (.tptr r (c + off)) []
    | _ => .fail
  | .field T x f => opd C T x fun a => offOf C T f fun ft off => match a with
    | .agg cs => bif (C.Γ ft).isAgg then fin N o (.agg ((cs.drop off).take (C.Γ ft).size)) [] else
        match cs[off]? with | some y => bif isDef y then fin N o y [] else .fail | none => .fail
    | _ => .fail
  | .indexAddr T x i => opd C 0 x fun a => opd C 0 i fun i => asI i fun i => aindexAddr C T a i fun r => fin N o r []
  | .index T x i => bif (C.Γ T).isS then opd C 0 x fun a => opd C 0 i fun i => asI i fun i => match a with
    | .t (.v (.string s)) => .need (0 ≤ i ∧ i < s.size) (fin N o (.t (.v (.int .u8 (s.data.toList.getD i.toNat 0).toNat))) [])
    | _ => .fail
    else .fail
  | .extract x i => opd C 0 x fun a => match a with
    | .tup vs => match vs[i]? with | some y => fin N o y [] | none => .fail
    | _ => .fail
  | .call { callee := .builtin b, args, argTypes } => opds C args.toList argTypes.toList fun xs => abuiltin C N me o b argTypes.toList xs
  | .call { callee := .value f, args, argTypes } => opd C 0 f fun g => opds C args.toList argTypes.toList fun xs => acall C N me o g xs
  | _ => .fail

def opRd (o : Oper) : Rd := match o.dst with | some d => opAt C N (.site d) o | none => opAt C N (.site 1000003) o

/-! Regions -/
def wset : List (Pl) → Ws → List Pl
  | acc, [] => acc
  | acc, (p, _) :: ws => wset (p :: acc) ws
def Pl.mem (p : Pl) : List Pl → Bool
  | [] => false
  | q :: qs => Pl.beq p q || Pl.mem p qs
def isFz : AV → Bool | .lrow true => true | _ => false
/-- what one operation did: its reads and its writes -/
structure Log where
  R : List Pl
  W : Ws
def hitsR : List Pl → Ws → Bool
  | _, [] => false
  | R, (p, _) :: ws => Pl.mem p R || hitsR R ws
/-- a row that is marked frozen more than once is no conflict -/
def hitsW1 (p : Pl) (a : AV) : Ws → Bool
  | [] => false
  | (q, b) :: ws => (Pl.beq p q && !(isFz a && isFz b)) || hitsW1 p a ws
def hitsW : Ws → Ws → Bool
  | _, [] => false
  | V, (p, a) :: ws => hitsW1 p a V || hitsW V ws
def Log.clash (x y : Log) : Bool := hitsR x.R y.W || hitsR y.R x.W || hitsW x.W y.W
/-- every earlier operation that clashes is one that this one waits for -/
def waits (b : Nat) (y : Log) : Nat → List Log → Bool
  | _, [] => true
  | i, x :: xs => (Nat.testBit b i || !(x.clash y)) && waits b y (i + 1) xs
def allWait (bs : List Nat) : Nat → List Log → List Log → Bool
  | _, _, [] => true
  | j, pre, y :: ys => waits (bs.getD j 0) y 0 pre && allWait bs (j + 1) (pre ++ [y]) ys

/-- every edge points back -/
def edgesBack : Nat → List Oper → Bool
  | _, [] => true
  | i, o :: os => (o.after.toList.all fun e => Nat.blt e.on i) && edgesBack (i + 1) os
/-- the place of a number in a list -/
def posIn : List Nat → Nat → Nat
  | [], _ => 0
  | x :: xs, i => bif Nat.beq x i then 0 else posIn xs i + 1
/-- every edge that binds leads to an earlier place of an order -/
def edgesIn (m : Region.Mode) (n : Nat) (pos : Nat → Nat) : Nat → List Oper → Bool
  | _, [] => true
  | i, o :: os => (o.after.toList.all fun e => !(Region.binds m e) || (Nat.blt e.on n && Nat.blt (pos e.on) (pos i))) && edgesIn m n pos (i + 1) os
/-- in each mode there is an order in which every operation gets its turn -/
def edgesOK (ops : Array Oper) : Bool :=
  edgesBack 0 ops.toList || (edgesIn .any ops.size id 0 ops.toList && (edgesIn .text ops.size id 0 ops.toList && edgesIn .gc ops.size (posIn (Region.linearise .gc ops 0)) 0 ops.toList))
def guardRd (ops : List Oper) (o : Oper) (k : Bool → Rd) : Rd :=
  match o.guard with
  | none => k true
  | some (j, want) => match (ops[j]?).bind (·.dst) with
    | some d => .get (.tmp d) fun
      | .t (.v (.bool b)) => .br b (k want) (k (!want))
      | .skip => k false
      | _ => .fail
    | none => .fail
/-- One operation under its guard. -/
def stepRd (ops : List Oper) (o : Oper) : Rd := guardRd ops o fun w => bif w then opRd C N o else fin N o .skip []

/-- The guard's outcome is laid open ahead of the operation. -/
def guardCase (ops : List Oper) (o : Oper) (s : St) (k : St → Prop) : Prop :=
  match o.guard with
  | none => k s
  | some (j, _) => match (ops[j]?).bind (·.dst) with
    | some d => match s.look (.tmp d) with
      | .t (.v (.bool b)) => Br b (s.setK (.tmp d) (B true) k) (s.setK (.tmp d) (B false) k)
      | _ => k s
    | none => k s
def vops (ops : List Oper) : List Oper → St → List Log → (St → List Log → Prop) → Prop
  | [], s, lg, K => K s lg
  | o :: rest, s, lg, K => guardCase ops o s fun s => (stepRd C N ops o).wp s [] fun R ws => s.setsK ws fun s => vops ops rest s (⟨R, ws⟩ :: lg) K

inductive XExit where
  | normal | exit (id : Nat) | ret

def vregion (ops : Array Oper) (draw : Bool) (s : St) (K : St → Prop) : Prop :=
  vops C N ops.toList ops.toList s [] fun s' lg =>
    match s' with
    | ⟨v, _, h⟩ => match draw with
      | false => K ⟨v, [], h⟩
      | true => (allWait (Region.before ops).toList 0 [] lg.reverse && edgesOK ops) = true ∧ K ⟨v, [], h⟩

def vc (Lp : Code → St → (XExit → St → Prop) → Prop) : Code → St → (XExit → St → Prop) → Prop
  | .skip, s, K => K .normal s
  | .ret, s, K => K .ret s
  | .exit id, s, K => K (.exit id) s
  | .seq a b, s, K => vc Lp a s fun e s' => match e with | .normal => vc Lp b s' K | .exit i => K (.exit i) s' | .ret => K .ret s'
  | .cond c a b, s, K => match c with
    | .tmp t => match s.look (.tmp t) with | .t (.v (.bool x)) => Br x (vc Lp a s K) (vc Lp b s K) | _ => False
    | .const (.bool x) => Br x (vc Lp a s K) (vc Lp b s K)
    | _ => False
  | .block id a, s, K => vc Lp a s fun e s' => match e with | .exit i => bif Nat.beq i id then K .normal s' else K (.exit i) s' | .normal => K .normal s' | .ret => K .ret s'
  | .region _ ops d, s, K => vregion C N ops d s fun s' => K .normal s'
  | .loop a, s, K => Lp a s K
  | _, _, _ => False

/-! A function's beginning and end -/
def startW : Nat → List AV → Ws
  | _, [] => []
  | j, a :: as => (impR (.arg j) a).2 ++ ((.tmp j, (impR (.arg j) a).1) :: (.gh j, (impR (.arg j) a).1) :: startW (j + 1) as)
def startK {α : Sort _} (keys : List Nat) (args : List AV) (k : St → α) : α := forceW (startW 0 args) fun ws => St.zero.setsK ws fun s => forceV (keys.map fun t => (t, s.look (.tmp t))) fun v => match s with | ⟨_, _, h⟩ => k ⟨v, [], h⟩
/-- What was handed in, as it is at the end: what is still the call's own. -/
def outC (x : AV) (k : AV → List Nm → Rd) : Rd :=
  match x with
  | .own n _ => .get (.live n) fun
    | .lrow false => .get (.row n) fun | .rowc k' rows => k (.vec k' rows) [n] | _ => .fail
    | _ => k .undef []
  | .part n _ i len => .get (.live n) fun
    | .lrow false => .get (.row n) fun | .rowc k' rows => k (.vecp k' rows i len) [n] | _ => .fail
    | _ => k .undef []
  | _ => k .undef []
def outCs : List AV → (List AV → List Nm → Rd) → Rd
  | [], k => k [] []
  | x :: xs, k => outC x fun o ns => outCs xs fun os ns' => k (o :: os) (ns ++ ns')
def outT (x : AV) (k : AV → List Nm → List Nm → Rd) : Rd :=
  match x with
  | .agg xs => outCs xs fun os ns => k (.agg os) ns []
  | .ptr n 0 => .get (.live n) fun
    | .lbox sz => getCells n 0 sz fun cs => expCs true cs fun os ns zs => k (.box os) (n :: ns) zs
    | _ => k .undef [] []
  | x => outC x fun o ns => k o ns []
def outTs : List AV → (List AV → List Nm → List Nm → Rd) → Rd
  | [], k => k [] [] []
  | x :: xs, k => outT x fun o ns zs => outTs xs fun os ns' zs' => k (o :: os) (ns ++ ns') (zs ++ zs')
def outR (x : AV) (k : AV → List Nm → List Nm → Rd) : Rd :=
  match x with
  | .fn f xs => outTs xs fun os ns zs => k (.fn f os) ns zs
  | .tup _ => k .undef [] []
  | x => outT x k
def outArgs : Nat → List AV → (List AV → List Nm → List Nm → Rd) → Rd
  | _, [], k => k [] [] []
  | j, y :: ys, k => match y with
    | .t _ => outArgs (j + 1) ys fun os ns zs => k (.undef :: os) ns zs
    | .undef => outArgs (j + 1) ys fun os ns zs => k (.undef :: os) ns zs
    | _ => .get (.gh j) fun x => outR x fun o ns zs => outArgs (j + 1) ys fun os ns' zs' => k (o :: os) (ns ++ ns') (zs ++ zs')
def resRd : ResultVar → (AV → Rd) → Rd
  | .tmp t, k => .get (.tmp t) k
  | .cell a T, k => .get (.tmp a) fun p => aload C T p k
def resRds : List ResultVar → (List AV → Rd) → Rd
  | [], k => k []
  | r :: rs, k => resRd C r fun a => resRds rs fun as => k (a :: as)
def oneOf : List AV → AV | [a] => a | as => .tup as
def retRd (f : FuncId) (res : List ResultVar) (args : List AV) (k : AV → List AV → List Nm → List Nm → Rd) : Rd :=
  resRds C res fun as => expR (C.keep f) (oneOf as) fun r ns zs => outArgs 0 args fun outs ns' zs' => k r outs (ns ++ ns') (zs ++ zs')
/-- the call of a function comes to this: its result and what the arguments have become fulfil 'Z' -/
def vcallP (Lp : Code → St → (XExit → St → Prop) → Prop) (f : FuncId) (body : Code) (res : List ResultVar) (keys : List Nat) (args : List AV) (Z : AV → List AV → Prop) : Prop :=
  startK keys args fun s => vc C N Lp body s fun e s => match e with
    | .exit _ => False
    | _ => (retRd C f res args fun r outs ns zs => bif Nm.nodup ns && Nm.apart ns zs then .done [(.gh 0, .tup (r :: outs))] else .fail).wp s [] fun _ ws => match ws with | [(_, .tup (r :: outs))] => Z r outs | _ => False
end
end Go.Proofs.YtaklcemgpinleaaDoor
