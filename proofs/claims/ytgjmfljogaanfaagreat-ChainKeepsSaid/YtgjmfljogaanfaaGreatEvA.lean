/- The abstract evaluator: values, heap, operations, code. Plain definitions; nothing is claimed here. -/
import Derived.Laws.Entries
import Derived.Control
namespace Go.Ev

inductive SK where
  | int (k : IntKind) | bool | str
  deriving DecidableEq
abbrev SK.T : SK → Type
  | .int _ => Int | .bool => Bool | .str => ByteArray
def SK.dflt : (s : SK) → s.T
  | .int _ => (0 : Int) | .bool => false | .str => ByteArray.empty

inductive AV where
  | junk
  | int (k : IntKind) (n : Int)
  | bool (b : Bool)
  | str (s : ByteArray)
  | agg (cs : List AV)
  | tup (vs : List AV)
  | nilptr | nilsl | nilfn
  | ptr (key off : Nat)
  | elt (key i sz c : Nat)
  | sl (key : Nat)
  | fn (f : Nat) (cap : List (Nat × Nat))

def SK.toAV : (s : SK) → s.T → AV
  | .int k, n => .int k n
  | .bool, b => .bool b
  | .str, s => .str s
def SK.ofAV : (s : SK) → AV → Option s.T
  | .int k, .int k' n => if k = k' then some n else none
  | .bool, .bool b => some b
  | .str, .str s => some s
  | _, _ => none

abbrev RowOf (s : SK) (t : List SK) (R : Type) : Type := match t with | [] => s.T | _ :: _ => s.T × R
/-- A row of scalars. -/
abbrev Row : List SK → Type
  | [] => Unit
  | s :: t => RowOf s t (Row t)
def Row.dflt : (sh : List SK) → Row sh
  | [] => ()
  | [s] => s.dflt
  | s :: a :: t => (s.dflt, Row.dflt (a :: t))
def Row.toAVs : (sh : List SK) → Row sh → List AV
  | [], _ => []
  | [s], x => [s.toAV x]
  | s :: a :: t, x => s.toAV x.1 :: Row.toAVs (a :: t) x.2
def Row.ofAVs : (sh : List SK) → List AV → Option (Row sh)
  | [], [] => some ()
  | [s], [v] => s.ofAV v
  | s :: a :: t, v :: vs => (s.ofAV v).bind fun x => (Row.ofAVs (a :: t) vs).bind fun y => some (x, y)
  | _, _ => none

inductive AB where
  | gone
  | cells (cs : List AV)
  | rcells (cs : List AV)
  | rows (e : TypeId) (sh : List SK) (xs : List (Row sh))
  | ext (e : TypeId) (sh : List SK) (xs : List (Row sh))
  | nest (e e2 : TypeId) (sh : List SK) (xss : List (List (Row sh)))
  | mix (e e2 : TypeId) (sh sh2 : List SK) (xs : List (Row sh × List (Row sh2)))
  | mixe (e e2 : TypeId) (sh sh2 : List SK) (xs : List (Row sh × List (Row sh2)))

def byteAt (s : ByteArray) (i : Int) : Int := ((s[i.toNat]?).map fun b => (b.toNat : Int)).getD 0

def AV.leaf : AV → Bool
  | .junk | .agg _ | .tup _ => false
  | _ => true
def AV.cells : AV → List AV
  | .agg cs => cs
  | v => [v]

def AV.ofLeaf : Value → AV
  | .int k n => .int k n
  | .bool b => .bool b
  | .string s => .str s
  | .pointer none => .nilptr
  | .slice none 0 0 => .nilsl
  | .nilFunc => .nilfn
  | _ => .junk
def AV.ofConst : Value → AV
  | .agg cs => if cs.toList.all Value.oneCell' then .agg (cs.toList.map AV.ofLeaf) else .junk
  | v => AV.ofLeaf v

/-- A contract of a function, as the evaluator uses it. -/
structure FC : Type 1 where
  T : Type
  R : Type
  eff : Bool
  dec : List AV → List AB → Option (T × List Nat)
  run : Nat → T → Option R
  enc : List Nat → Nat → R → AV
  nb : List Nat → Nat → R → List AB
  up : List Nat → Nat → R → List (Nat × AB)

structure St : Type 1 where
  tmps : List AV
  h : List AB
inductive Ex where
  | normal | exit (id : Nat) | ret
  deriving DecidableEq
/-- What is known of a loop: its states (get, put), what it comes to (run), the states at its ends. -/
structure LC : Type 1 where
  X : Type
  Y : Type
  get : St → Option X
  put : X → St
  getX : Ex → St → Option Y
  putX : Y → Ex × St
  run : Nat → X → Option Y
  elim : {R : Type} → Y → (Ex → St → Option R) → Option R

/-- What is known of a range over a function: the iterator and what it tells; the states between two rounds. -/
structure RC : Type 1 where
  gf : FuncId
  sh : List SK
  dec : List (Nat × Nat) → List AB → Option (List (Row sh))
  X : Type
  get : St → Option X
  put : X → St
  run : Nat → List (Row sh) → X → Option X

structure Env : Type 1 where
  P : Program
  N : Nat
  orc : FuncId → Option FC
  lorc : Nat → Option LC
  n0 : Nat
  unr : Nat
  pins : List (Nat × Nat)
  rorc : Nat → Option RC := fun _ => none

inductive Out : Type 1 where
  | none
  | val (chk : Bool) (v : AV) (nb : Option AB) (upd : Option (Nat × AB))
  | call (g : FuncId) (args : List AV) (T : Type) (m : Option T) (v : T → AV) (nb : T → List AB) (up : T → List (Nat × AB))
  | enter (f : FuncId) (args : List AV)

def aggD : TypeDesc → Bool
  | .struct _ => true
  | .array _ _ => true
  | _ => false
/-- Is a type one of structs or arrays? -/
def aggB (P : Program) (t : TypeId) : Option Bool := (P.underlying t).map aggD
/-- A value of a type out of its cells. -/
def ofCells (P : Program) (t : TypeId) (cs : List AV) : Option AV :=
  match aggB P t with
  | some true => some (.agg cs)
  | some false => match cs with | [v] => some v | _ => none
  | none => none

def skOf : AV → Option SK
  | .int k _ => some (.int k)
  | .bool _ => some .bool
  | .str _ => some .str
  | _ => none
def shOf (vs : List AV) : Option (List SK) := vs.mapM skOf
/-- The shape of a type's values, out of its zero value. -/
def shape (P : Program) (t : TypeId) : Option (List SK) :=
  ((P.info? t).bind (·.zero)).bind fun z => shOf (AV.ofConst z).cells
def boolT (P : Program) (t : TypeId) : Bool :=
  match P.underlying t with
  | some .bool => true
  | _ => false
def strT (P : Program) (t : TypeId) : Bool :=
  match P.underlying t with
  | some .string => true
  | _ => false
def sliceElem (P : Program) (t : TypeId) : Option TypeId :=
  match P.underlying t with
  | some (.slice e) => some e
  | _ => none
/-- A type's zero value as a row of a shape. -/
def zeroRow (P : Program) (t : TypeId) (sh : List SK) : Option (Row sh) :=
  if 0 < sh.length ∧ P.cellsOf t = sh.length then ((P.info? t).bind (·.zero)).bind fun z => Row.ofAVs sh (AV.ofConst z).cells else none
def zeroA (P : Program) (t : TypeId) : Option AV := ((P.info? t).bind (·.zero)).map AV.ofConst

def splice (cs : List AV) (off : Nat) (vs : List AV) : List AV := cs.take off ++ vs ++ cs.drop (off + vs.length)

def val1 (v : AV) : Out := .val true v none none

def intBin (op : BinOp) (k : IntKind) (x y : Int) : Option (Bool × AV) :=
  match op with
  | .add => some (true, .int k (k.wrap (x + y)))
  | .sub => some (true, .int k (k.wrap (x - y)))
  | .mul => some (true, .int k (k.wrap (x * y)))
  | .quo => some (!(decide (y = 0)), .int k (k.wrap (x.tdiv y)))
  | .rem => some (!(decide (y = 0)), .int k (x.tmod y))
  | .and => some (true, .int k (bits .and k x y))
  | .or => some (true, .int k (bits .or k x y))
  | .xor => some (true, .int k (bits .xor k x y))
  | .andNot => some (true, .int k (bits .andNot k x y))
  | .eql => some (true, .bool (x == y))
  | .neq => some (true, .bool (x != y))
  | .lss => some (true, .bool (decide (x < y)))
  | .leq => some (true, .bool (decide (x ≤ y)))
  | .gtr => some (true, .bool (decide (x > y)))
  | .geq => some (true, .bool (decide (x ≥ y)))
  | _ => none
def shiftBin (op : BinOp) (k : IntKind) (x y : Int) : Option (Bool × AV) :=
  match op with
  | .shl => some (!(decide (y < 0)), .int k (k.wrap (x * 2 ^ (min y.toNat k.bits))))
  | .shr => some (!(decide (y < 0)), .int k (x.fdiv (2 ^ (min y.toNat k.bits))))
  | _ => none

def binA (op : BinOp) (x y : AV) : Option (Bool × AV) :=
  match x, y with
  | .int k a, .int k' b =>
    match op with
    | .shl | .shr => shiftBin op k a b
    | _ => if k = k' then intBin op k a b else none
  | .str a, .str b =>
    match op with
    | .eql => some (true, .bool (a.toList == b.toList))
    | .neq => some (true, .bool (!(a.toList == b.toList)))
    | .lss => some (true, .bool (Op.bytesLess a.toList b.toList))
    | .leq => some (true, .bool (Op.bytesLess a.toList b.toList || a.toList == b.toList))
    | .gtr => some (true, .bool (!(Op.bytesLess a.toList b.toList || a.toList == b.toList)))
    | .geq => some (true, .bool (!(Op.bytesLess a.toList b.toList)))
    | .add => some (decide (a.size + b.size ≤ 9223372036854775807), .str (a ++ b))
    | _ => none
  | _, _ => none

/-- '==' of structs, field by field. -/
def eqFs (P : Program) (eqT : TypeId → List AV → List AV → Option Bool) : List Field → Nat → List AV → List AV → Option Bool
  | [], _, c1, c2 => match c1, c2 with | [], [] => some true | _, _ => none
  | f :: fs, off, c1, c2 =>
    if (f.name != "_" && f.offset == off && (aggB P f.type).isSome && decide (P.cellsOf f.type ≤ c1.length) && decide (P.cellsOf f.type ≤ c2.length) && (aggB P f.type == some true || P.cellsOf f.type == 1)) = true then
      (eqT f.type (c1.take (P.cellsOf f.type)) (c2.take (P.cellsOf f.type))).bind fun r => (eqFs P eqT fs (off + P.cellsOf f.type) (c1.drop (P.cellsOf f.type)) (c2.drop (P.cellsOf f.type))).map fun s => r && s
    else none
/-- '==' of arrays, element by element. -/
def eqIs (eqT : TypeId → List AV → List AV → Option Bool) (e : TypeId) (c : Nat) : Nat → List AV → List AV → Option Bool
  | 0, _, _ => some true
  | n + 1, c1, c2 =>
    if (decide (c ≤ c1.length) && decide (c ≤ c2.length)) = true then
      (eqT e (c1.take c) (c2.take c)).bind fun r => (eqIs eqT e c n (c1.drop c) (c2.drop c)).map fun s => r && s
    else none
/-- '==' of values of a type, by their cells. -/
def eqT (P : Program) : Nat → TypeId → List AV → List AV → Option Bool
  | 0, _, _, _ => none
  | n + 1, t, c1, c2 =>
    match P.underlying t with
    | some .bool => match c1, c2 with | [.bool a], [.bool b] => some (a == b) | _, _ => none
    | some (.int _) => match c1, c2 with | [.int k a], [.int k' b] => if k = k' then some (a == b) else none | _, _ => none
    | some .string => match c1, c2 with | [.str a], [.str b] => some (a == b) | _, _ => none
    | some (.struct fs) => if P.stoodInHeld t = false then eqFs P (eqT P n) fs.toList 0 c1 c2 else none
    | some (.array m e) => if ((P.info? e).isSome && (aggB P e).isSome && (aggB P e == some true || P.cellsOf e == 1)) = true then eqIs (eqT P n) e (P.cellsOf e) m c1 c2 else none
    | _ => none
/-- No part of a type is an interface. -/
def noGuard (P : Program) (t : TypeId) : Bool := !P.eqGuardType P.depth t
def minmax (isMax : Bool) (k : IntKind) : Int → List AV → Option Int
  | x, [] => some x
  | x, .int k' y :: t => if k = k' then minmax isMax k (if isMax then (if y > x then y else x) else (if y < x then y else x)) t else none
  | _, _ => none

def fieldOf (P : Program) (s : TypeId) (f : Nat) : Option Field :=
  match P.underlying s with
  | some (.struct fs) => fs[f]?
  | _ => none

def placesOf (P : Program) (t : TypeId) : Option (Nat → Option (Nat × Nat)) :=
  match P.underlying t with
  | some (.array _ e) => match P.info? e with | some ie => some fun i => some (i * ie.size, ie.size) | none => none
  | some (.struct fields) => match fields.toList.mapM (fun f => (P.info? f.type).map fun i => (f.offset, i.size)) with | some places => some (places.toArray[·]?) | none => none
  | _ => none
def AV.solid : AV → Bool
  | .junk | .tup _ => false
  | _ => true
def fillA (place : Nat → Option (Nat × Nat)) (cells : List AV) : List (Nat × AV) → Option (List AV)
  | [] => some cells
  | (i, v) :: rest =>
    match place i with
    | none => none
    | some (off, size) =>
      if v.cells.length = size ∧ off + size ≤ cells.length ∧ v.solid then fillA place (splice cells off v.cells) rest else none

/-- The cells of a block at a place. -/
def loadA (h : List AB) (addr : AV) (size : Nat) : Option (List AV) :=
  match addr with
  | .ptr key off =>
    match h[key]? with
    | some (.cells cs) => if off + size ≤ cs.length then some ((cs.drop off).take size) else none
    | some (.rcells cs) => if off + size ≤ cs.length then some ((cs.drop off).take size) else none
    | _ => none
  | .elt key i sz c =>
    match h[key]? with
    | some (.rows _ sh xs) => if c + size ≤ sh.length ∧ sz = sh.length then some (((Row.toAVs sh (xs.getD i (Row.dflt sh))).drop c).take size) else none
    | some (.ext _ sh xs) => if c + size ≤ sh.length ∧ sz = sh.length then some (((Row.toAVs sh (xs.getD i (Row.dflt sh))).drop c).take size) else none
    | _ => none
  | _ => none
def storeA (h : List AB) (addr : AV) (vs : List AV) : Option (Nat × AB) :=
  match addr with
  | .ptr key off =>
    match h[key]? with
    | some (.cells cs) => if off + vs.length ≤ cs.length then some (key, .cells (splice cs off vs)) else none
    | _ => none
  | .elt key i sz c =>
    match h[key]? with
    | some (.rows e sh xs) =>
      if c + vs.length ≤ sh.length ∧ sz = sh.length then
        match Row.ofAVs sh (splice (Row.toAVs sh (xs.getD i (Row.dflt sh))) c vs) with
        | some r => some (key, .rows e sh (xs.set i r))
        | none => none
      else none
    | _ => none
  | _ => none

/-- The elements of a slice value, at a known element type and shape. -/
def rowsOf (e : TypeId) (sh : List SK) (h : List AB) : AV → Option (List (Row sh))
  | .nilsl => some []
  | .sl k =>
    match h[k]? with
    | some (.rows e' sh' xs) => if e' = e then if hs : sh' = sh then some (hs ▸ xs) else none else none
    | some (.ext e' sh' xs) => if e' = e then if hs : sh' = sh then some (hs ▸ xs) else none else none
    | _ => none
  | _ => none

/-- The elements of a slice value that is written no more. -/
def extOf (e : TypeId) (sh : List SK) (h : List AB) : AV → Option (List (Row sh))
  | .nilsl => some []
  | .sl k =>
    match h[k]? with
    | some (.ext e' sh' xs) => if e' = e then if hs : sh' = sh then some (hs ▸ xs) else none else none
    | _ => none
  | _ => none
/-- The rows of a slice value of rows. -/
def nestOf (e e2 : TypeId) (sh : List SK) (h : List AB) : AV → Option (List (List (Row sh)))
  | .nilsl => some []
  | .sl k =>
    match h[k]? with
    | some (.nest e' e2' sh' xss) => if e' = e ∧ e2' = e2 then if hs : sh' = sh then some (hs ▸ xss) else none else none
    | _ => none
  | _ => none
/-- A row that lies in a row of rows. -/
def nestA (h : List AB) : AV → Option AB
  | .elt k i sz c =>
    match h[k]? with
    | some (.nest _ e2 sh xss) => if sz = 1 ∧ c = 0 then some (.ext e2 sh (xss.getD i [])) else none
    | _ => none
  | _ => none
/-- A type of slices of scalars' rows: of what, and their shape. -/
def nestT (P : Program) (e : TypeId) : Option (TypeId × List SK) :=
  match P.underlying e with
  | some (.slice e2) => if P.cellsOf e = 1 ∧ aggB P e = some false ∧ ((P.info? e).bind (·.zero)).map (·.cells.size) = some 1 then (shape P e2).bind fun sh => if 0 < sh.length then some (e2, sh) else none else none
  | _ => none

/-- Rows that each end with a slice, of a slice value. -/
def mixOf (e e2 : TypeId) (sh sh2 : List SK) (h : List AB) : AV → Option (List (Row sh × List (Row sh2)))
  | .nilsl => some []
  | .sl k =>
    match h[k]? with
    | some (.mix e' e2' sh' sh2' xs) => if e' = e ∧ e2' = e2 then if hs : sh' = sh then if hs2 : sh2' = sh2 then some (hs2 ▸ hs ▸ xs) else none else none else none
    | some (.mixe e' e2' sh' sh2' xs) => if e' = e ∧ e2' = e2 then if hs : sh' = sh then if hs2 : sh2' = sh2 then some (hs2 ▸ hs ▸ xs) else none else none else none
    | _ => none
  | _ => none
def mixGet (sh : List SK) (e2 : TypeId) (sh2 : List SK) (sz c i : Nat) (xs : List (Row sh × List (Row sh2))) : Option (List AV × AB) :=
  if sz = sh.length + 1 ∧ c = 0 then some (Row.toAVs sh (xs.getD i (Row.dflt sh, [])).1, .ext e2 sh2 (xs.getD i (Row.dflt sh, [])).2) else none
/-- A row that ends with a slice, out of its place. -/
def mixA (h : List AB) : AV → Option (List AV × AB)
  | .elt k i sz c =>
    match h[k]? with
    | some (.mix _ e2 sh sh2 xs) => mixGet sh e2 sh2 sz c i xs
    | some (.mixe _ e2 sh sh2 xs) => mixGet sh e2 sh2 sz c i xs
    | _ => none
  | _ => none
/-- A type of structs of scalars, and a slice of scalars' rows at their end. -/
def mixT (P : Program) (e : TypeId) : Option (List SK × TypeId × List SK) :=
  match P.underlying e with
  | some (.struct fs) =>
    match ((P.info? e).bind (·.zero)).map (fun z => z.cells.toList.map AV.ofLeaf), fs.toList.getLast? with
    | some cs, some f =>
      match shOf cs.dropLast, P.underlying f.type with
      | some sh, some (.slice e2) => if P.cellsOf e = sh.length + 1 ∧ cs.length = sh.length + 1 ∧ sh.length ≤ 16777215 then (shape P e2).bind fun sh2 => if 0 < sh2.length then some (sh, e2, sh2) else none else none
      | _, _ => none
    | _, _ => none
  | _ => none
/-- A row that ends with a slice that is written no more. -/
def mixRow (sh : List SK) (e2 : TypeId) (sh2 : List SK) (h : List AB) : AV → Option (Row sh × List (Row sh2))
  | .agg cs =>
    match cs.drop sh.length with
    | [v] => (Row.ofAVs sh (cs.take sh.length)).bind fun x => (extOf e2 sh2 h v).map fun y => (x, y)
    | _ => none
  | _ => none

/-- A bound of a slice expression. -/
def bndA (ρ : Operand → AV) : Option Operand → Int → Option Int
  | none, d => some d
  | some x, _ => match ρ x with | .int _ n => some n | _ => none
/-- Are a slice expression's bounds in order? -/
def bndOK (l u n : Int) : Bool := decide (0 ≤ l) && (decide (l ≤ u) && decide (u ≤ n))
/-- Elements from one place on to below another. -/
def cutL {α : Type} (xs : List α) (l u : Int) : List α := (xs.take u.toNat).drop l.toNat
def cutB (s : ByteArray) (l u : Int) : ByteArray := s.extract l.toNat u.toNat

/-- '==' with nil. -/
def nilEq : AV → AV → Option Bool
  | .nilptr, .nilptr => some true
  | .nilptr, .ptr _ _ => some false
  | .nilptr, .elt _ _ _ _ => some false
  | .ptr _ _, .nilptr => some false
  | .elt _ _ _ _, .nilptr => some false
  | .nilsl, .nilsl => some true
  | .nilfn, .nilfn => some true
  | .nilfn, .fn _ _ => some false
  | .fn _ _, .nilfn => some false
  | _, _ => none
def nilT (P : Program) (t : TypeId) : AV → Bool
  | .nilptr => match P.underlying t with | some (.pointer _) => true | _ => false
  | .ptr _ _ => match P.underlying t with | some (.pointer _) => true | _ => false
  | .elt _ _ _ _ => match P.underlying t with | some (.pointer _) => true | _ => false
  | .nilsl => match P.underlying t with | some (.slice _) => true | _ => false
  | .nilfn => match P.underlying t with | some (.func _ _ _) => true | _ => false
  | .fn _ _ => match P.underlying t with | some (.func _ _ _) => true | _ => false
  | _ => false

/-- Functions with what they hold: captured (below a million), or handed in ahead of the rest (method values; their number and a million). -/
def fnG (g : Nat) : Nat := if g < 1000000 then g else g - 1000000
def fnA {α : Type} (g : Nat) (as cs : List α) : List α := if g < 1000000 then as ++ cs else cs ++ as
def ptrOf : AV → Option (Nat × Nat)
  | .ptr k o => some (k, o)
  | _ => none
/-- Cuts of own rows move them, where a pin of no places says so. -/
def Env.mv (E : Env) : Bool := E.pins.any fun p => p.2 == 0
def movS (o : Oper) : Bool :=
  match o.op with
  | .slice _ (.tmp _) (some (.const _)) none none => true
  | _ => false
/-- What one operation does: 'key' is where it puts what it makes. -/
def den (E : Env) (key : Nat) (ρ : Operand → AV) (h : List AB) (o : Oper) : Out :=
  match o.op with
  | .move x | .assign x => val1 (ρ x)
  | .pick c a b =>
    match ρ c, ρ a, ρ b with
    | .bool t, .int k x, .int k' y => if k = k' then val1 (.int k (bif t then x else y)) else .none
    | .bool t, .bool x, .bool y => val1 (.bool (bif t then x else y))
    | .bool t, x, y => val1 (bif t then x else y)
    | _, _, _ => .none
  | .alloc e =>
    match zeroA E.P e with
    | some .junk => .none
    | some (.tup _) => .none
    | some z => .val true (.ptr key 0) (some (.cells z.cells)) none
    | none => .none
  | .box _ x =>
    match ρ x with
    | .junk | .tup _ => .none
    | v => .val true (.ptr key 0) (some (.cells v.cells)) none
  | .build t parts =>
    match zeroA E.P t, placesOf E.P t with
    | some (.agg z), some pl =>
      match fillA pl z (parts.toList.map fun p => (p.1, ρ p.2)) with
      | some cs => val1 (.agg cs)
      | none => .none
    | _, _ => .none
  | .load t a =>
    match loadA h (ρ a) (E.P.cellsOf t) with
    | some cs => match ofCells E.P t cs with | some v => val1 v | none => .none
    | none =>
      match nestA h (ρ a) with
      | some b => if E.P.cellsOf t = 1 ∧ aggB E.P t = some false then .val true (.sl key) (some b) none else .none
      | none =>
        match mixA h (ρ a) with
        | some (cs, b) => if E.P.cellsOf t = cs.length + 1 ∧ aggB E.P t = some true then .val true (.agg (cs ++ [.sl key])) (some b) none else .none
        | none => .none
  | .store t a x =>
    let vs := (ρ x).cells
    if vs.length = E.P.cellsOf t ∧ vs.all AV.leaf ∧ (E.P.info? t).isSome then
      match storeA h (ρ a) vs with
      | some u => .val true (.tup []) none (some u)
      | none => .none
    else .none
  | .nilCheck x =>
    match ρ x with
    | .ptr k o => val1 (.ptr k o)
    | .elt k i s c => val1 (.elt k i s c)
    | .fn f c => val1 (.fn f c)
    | _ => .none
  | .binOp op t x y _ =>
    match ρ x, ρ y with
    | .agg xs, .agg ys =>
      if noGuard E.P t = true ∧ aggB E.P t = some true then
        match op, eqT E.P 5 t xs ys with
        | .eql, some r => val1 (.bool r)
        | .neq, some r => val1 (.bool (!r))
        | _, _ => .none
      else .none
    | .bool a, .bool b =>
      if boolT E.P t then
        match op with
        | .eql => val1 (.bool (a == b))
        | .neq => val1 (.bool (!(a == b)))
        | _ => .none
      else .none
    | a, b =>
      match nilEq a b with
      | some r =>
        if noGuard E.P t = true ∧ nilT E.P t a = true then
          match op with
          | .eql => val1 (.bool r)
          | .neq => val1 (.bool (!r))
          | _ => .none
        else .none
      | none =>
      match binA op a b with
      | some (c, v) => .val c v none none
      | none => .none
  | .unOp op _ x =>
    match op, ρ x with
    | .neg, .int k n => val1 (.int k (k.wrap (0 - n)))
    | .not, .bool b => val1 (.bool (!b))
    | .xor, .int k n => val1 (.int k (bits .xor k (if k.signed then -1 else k.max) n))
    | _, _ => .none
  | .convert s d x =>
    match E.P.underlying s, E.P.underlying d, ρ x with
    | us, some (.int k), .int _ n => if us.isSome then val1 (.int k (k.wrap n)) else .none
    | some .string, some .string, .str b => val1 (.str b)
    | _, _, _ => .none
  | .makeFunc (.func f) first captured =>
    if first.size = 0 ∧ f < 1000000 then
      match captured.toList.mapM (fun x => ptrOf (ρ x)) with
      | some cs => val1 (.fn f cs)
      | none => .none
    else if captured.size = 0 then
      match first.toList.mapM (fun x => ptrOf (ρ x)) with
      | some cs => val1 (.fn (f + 1000000) cs)
      | none => .none
    else .none
  | .fieldAddr s x f =>
    match fieldOf E.P s f, ρ x with
    | some fd, .ptr k o => if E.P.cellsOf fd.type = 0 then .none else val1 (.ptr k (o + fd.offset))
    | some fd, .elt k i sz c => if E.P.cellsOf fd.type = 0 then .none else val1 (.elt k i sz (c + fd.offset))
    | _, _ => .none
  | .field s x f =>
    match fieldOf E.P s f, ρ x with
    | some fd, .agg cs =>
      if fd.offset + E.P.cellsOf fd.type ≤ cs.length then
        match ofCells E.P fd.type ((cs.drop fd.offset).take (E.P.cellsOf fd.type)) with | some v => val1 v | none => .none
      else .none
    | _, _ => .none
  | .indexAddr t x ix =>
    match E.P.underlying t, ρ x, ρ ix with
    | some (.array n e), .ptr k o, .int _ i => if (E.P.info? e).isSome then .val (decide (0 ≤ i) && decide (i < n)) (.ptr k (o + i.toNat * E.P.cellsOf e)) none none else .none
    | some (.array n e), .elt k j sz c, .int _ i => if (E.P.info? e).isSome then .val (decide (0 ≤ i) && decide (i < n)) (.elt k j sz (c + i.toNat * E.P.cellsOf e)) none none else .none
    | some (.slice e), .sl k, .int _ i =>
      match h[k]? with
      | some (.rows _ sh xs) => if sh.length = E.P.cellsOf e then .val (decide (0 ≤ i) && decide (i < (xs.length : Int))) (.elt k i.toNat (E.P.cellsOf e) 0) none none else .none
      | some (.ext _ sh xs) => if sh.length = E.P.cellsOf e then .val (decide (0 ≤ i) && decide (i < (xs.length : Int))) (.elt k i.toNat (E.P.cellsOf e) 0) none none else .none
      | some (.nest _ _ _ xss) => if 1 = E.P.cellsOf e then .val (decide (0 ≤ i) && decide (i < (xss.length : Int))) (.elt k i.toNat (E.P.cellsOf e) 0) none none else .none
      | some (.mix _ _ sh _ xs) => if sh.length + 1 = E.P.cellsOf e then .val (decide (0 ≤ i) && decide (i < (xs.length : Int))) (.elt k i.toNat (E.P.cellsOf e) 0) none none else .none
      | some (.mixe _ _ sh _ xs) => if sh.length + 1 = E.P.cellsOf e then .val (decide (0 ≤ i) && decide (i < (xs.length : Int))) (.elt k i.toNat (E.P.cellsOf e) 0) none none else .none
      | _ => .none
    | some (.slice _), .nilsl, .int _ _ => .val false .junk none none
    | _, _, _ => .none
  | .index t x ix =>
    match E.P.underlying t, ρ x, ρ ix with
    | some (.array n e), .agg cs, .int _ i =>
      if i.toNat * E.P.cellsOf e + E.P.cellsOf e ≤ cs.length then
        match ofCells E.P e ((cs.drop (i.toNat * E.P.cellsOf e)).take (E.P.cellsOf e)) with
        | some v => .val (decide (0 ≤ i) && decide (i < n)) v none none
        | none => .none
      else .none
    | some .string, .str s, .int _ i => .val (decide (0 ≤ i) && decide (i < (s.size : Int))) (.int .u8 (byteAt s i)) none none
    | _, _, _ => .none
  | .makeSlice t l c =>
    match E.P.underlying t, ρ l, ρ c with
    | some (.slice e), .int .i64 n, .int .i64 m =>
      match shape E.P e with
      | some sh =>
        match zeroRow E.P e sh with
        | some z => .val (decide (0 ≤ n) && (decide (n = m) && decide (n * E.P.bytesOf e ≤ 140737488355328) && decide (n ≤ 140737488355328))) (.sl key) (some (.rows e sh (List.replicate n.toNat z))) none
        | none => .none
      | none => .none
    | _, _, _ => .none
  | .buildSlice t len parts =>
    match E.P.underlying t with
    | some (.slice e) =>
      match shape E.P e with
      | some sh =>
        match zeroRow E.P e sh with
        | none => .none
        | some _ =>
        if parts.size = len ∧ (parts.toList.map (·.1)) = List.range' 0 len ∧ len * E.P.cellsOf e ≤ 16777216 then
          match parts.toList.mapM (fun p => if (ρ p.2).solid then Row.ofAVs sh (ρ p.2).cells else none) with
          | some xs => .val true (.sl key) (some (.rows e sh xs)) none
          | none => .none
        else .none
      | none =>
        match nestT E.P e, parts.toList with
        | some (e2, sh), [(0, x)] =>
          if len = 1 then
          match extOf e2 sh h (ρ x) with
          | some xs => .val true (.sl key) (some (.nest e e2 sh [xs])) none
          | none => .none
          else .none
        | _, _ =>
        match mixT E.P e, parts.toList with
        | some (sh, e2, sh2), [(0, x)] =>
          if len = 1 then
          match mixRow sh e2 sh2 h (ρ x) with
          | some r => .val true (.sl key) (some (.mix e e2 sh sh2 [r])) none
          | none => .none
          else .none
        | _, _ => .none
    | _ => .none
  | .slice t x lo hi none =>
    match E.P.underlying t, ρ x with
    | some .string, .str s =>
      match bndA ρ lo 0, bndA ρ hi (s.size : Int) with
      | some l, some u => .val (bndOK l u (s.size : Int)) (.str (cutB s l u)) none none
      | _, _ => .none
    | some (.slice e), .nilsl =>
      if (E.P.info? e).isSome then
      match bndA ρ lo 0, bndA ρ hi 0 with
      | some l, some u => .val (bndOK l u 0) .nilsl none none
      | _, _ => .none
      else .none
    | some (.slice e), .sl k =>
      match h[k]? with
      | some (.ext e' sh xs) =>
        if (E.P.info? e).isSome ∧ sh.length = E.P.cellsOf e then
        match bndA ρ lo 0, bndA ρ hi (xs.length : Int) with
        | some l, some u => .val (bndOK l u (xs.length : Int)) (.sl key) (some (.ext e' sh (cutL xs l u))) none
        | _, _ => .none
        else .none
      | some (.rows e' sh xs) =>
        if (E.mv && movS o) = true ∧ (E.P.info? e).isSome ∧ sh.length = E.P.cellsOf e then
        match bndA ρ lo 0, bndA ρ hi (xs.length : Int) with
        | some l, some u => .val (bndOK l u (xs.length : Int)) (.sl key) (some (.rows e' sh (cutL xs l u))) (some (k, .gone))
        | _, _ => .none
        else .none
      | some (.mixe e' e2 sh sh2 xs) =>
        if (E.P.info? e).isSome ∧ sh.length + 1 = E.P.cellsOf e then
        match bndA ρ lo 0, bndA ρ hi (xs.length : Int) with
        | some l, some u => .val (bndOK l u (xs.length : Int)) (.sl key) (some (.mixe e' e2 sh sh2 (cutL xs l u))) none
        | _, _ => .none
        else .none
      | _ => .none
    | _, _ => .none
  | .slice t x lo (some hi) (some mx) =>
    match E.P.underlying t, ρ x, bndA ρ lo 0, ρ hi, ρ mx with
    | some (.slice e), .nilsl, some l, .int _ u, .int _ m =>
      if (E.P.info? e).isSome then .val (decide (l = 0) && (decide (u = 0) && decide (m = 0))) .nilsl none none else .none
    | some (.slice e), .sl k, some l, .int _ u, .int _ m =>
      if (E.P.info? e).isSome then
      match h[k]? with
      | some (.ext _ sh _) => .val (decide (l = 0) && (decide (u = 0) && decide (m = 0))) (.sl key) (some (.rows e sh [])) none
      | _ => .none
      else .none
    | _, _, _, _, _ => .none
  | .extract t i =>
    match ρ t with
    | .tup vs => match vs[i]? with | some v => val1 v | none => .none
    | _ => .none
  | .call c =>
    match c.callee with
    | .builtin b =>
      match b, c.args.toList.map ρ with
      | .len, [.str s] => if 0 < c.argTypes.size ∧ strT E.P (c.argTypes.getD 0 0) then val1 (.int .i64 (s.size : Int)) else .none
      | .len, [.nilsl] => if 0 < c.argTypes.size ∧ (sliceElem E.P (c.argTypes.getD 0 0)).isSome then val1 (.int .i64 0) else .none
      | .len, [.sl k] =>
        if 0 < c.argTypes.size ∧ (sliceElem E.P (c.argTypes.getD 0 0)).isSome then
        match h[k]? with
        | some (.rows _ _ xs) => val1 (.int .i64 (xs.length : Int))
        | some (.ext _ _ xs) => val1 (.int .i64 (xs.length : Int))
        | some (.nest _ _ _ xss) => val1 (.int .i64 (xss.length : Int))
        | some (.mix _ _ _ _ xs) => val1 (.int .i64 (xs.length : Int))
        | some (.mixe _ _ _ _ xs) => val1 (.int .i64 (xs.length : Int))
        | _ => .none
        else .none
      | .append, [.sl k, x] =>
        match h[k]? with
        | some (.rows e sh xs) =>
          if sliceElem E.P (c.argTypes.getD 0 0) = some e ∧ c.argTypes = #[c.argTypes.getD 0 0, c.argTypes.getD 0 0] ∧ (zeroRow E.P e sh).isSome ∧ 0 < E.P.bytesOf e then
          match rowsOf e sh h x with
          | some ys => .val (decide ((xs.length + ys.length) * E.P.bytesOf e ≤ 140737488355328)) (.sl key) (some (.rows e sh (xs ++ ys))) (some (k, .gone))
          | none => .none
          else .none
        | some (.nest e e2 sh xss) =>
          if sliceElem E.P (c.argTypes.getD 0 0) = some e ∧ c.argTypes = #[c.argTypes.getD 0 0, c.argTypes.getD 0 0] ∧ nestT E.P e = some (e2, sh) ∧ 0 < E.P.bytesOf e then
          match nestOf e e2 sh h x with
          | some yss => .val (decide ((xss.length + yss.length) * E.P.bytesOf e ≤ 140737488355328)) (.sl key) (some (.nest e e2 sh (xss ++ yss))) (some (k, .gone))
          | none => .none
          else .none
        | some (.mix e e2 sh sh2 xs) =>
          if sliceElem E.P (c.argTypes.getD 0 0) = some e ∧ c.argTypes = #[c.argTypes.getD 0 0, c.argTypes.getD 0 0] ∧ mixT E.P e = some (sh, e2, sh2) ∧ 0 < E.P.bytesOf e then
          match mixOf e e2 sh sh2 h x with
          | some ys => .val (decide ((xs.length + ys.length) * E.P.bytesOf e ≤ 140737488355328)) (.sl key) (some (.mix e e2 sh sh2 (xs ++ ys))) (some (k, .gone))
          | none => .none
          else .none
        | _ => .none
      | .append, [.nilsl, x] =>
        match E.P.underlying (c.argTypes.getD 0 0) with
        | some (.slice e) =>
          match shape E.P e with
          | some sh =>
            if c.argTypes = #[c.argTypes.getD 0 0, c.argTypes.getD 0 0] ∧ (zeroRow E.P e sh).isSome ∧ 0 < E.P.bytesOf e then
            match rowsOf e sh h x with
            | some ys => .val (decide (ys.length * E.P.bytesOf e ≤ 140737488355328)) (.sl key) (some (.rows e sh ys)) none
            | none => .none
            else .none
          | none =>
            match nestT E.P e with
            | some (e2, sh) =>
              if c.argTypes = #[c.argTypes.getD 0 0, c.argTypes.getD 0 0] ∧ 0 < E.P.bytesOf e then
              match nestOf e e2 sh h x with
              | some yss => .val (decide (yss.length * E.P.bytesOf e ≤ 140737488355328)) (.sl key) (some (.nest e e2 sh yss)) none
              | none => .none
              else .none
            | none =>
              match mixT E.P e with
              | some (sh, e2, sh2) =>
                if c.argTypes = #[c.argTypes.getD 0 0, c.argTypes.getD 0 0] ∧ 0 < E.P.bytesOf e then
                match mixOf e e2 sh sh2 h x with
                | some ys => .val (decide (ys.length * E.P.bytesOf e ≤ 140737488355328)) (.sl key) (some (.mix e e2 sh sh2 ys)) none
                | none => .none
                else .none
              | none => .none
        | _ => .none
      | .max, .int k x :: vs => match minmax true k x vs with | some n => val1 (.int k n) | none => .none
      | .min, .int k x :: vs => match minmax false k x vs with | some n => val1 (.int k n) | none => .none
      | _, _ => .none
    | .value f =>
      match ρ f with
      | .fn g0 cap =>
        let g := fnG g0
        let args := fnA g0 (c.args.toList.map ρ) (cap.map fun x => .ptr x.1 x.2)
        match E.orc g with
        | some fc => match fc.dec args h with
          | some t => .call g args fc.R (fc.run E.N t.1) (fc.enc t.2 key) (fc.nb t.2 key) (fc.up t.2 key)
          | none => .enter g args
        | none => .enter g args
      | _ => .none
    | _ => .none
  | _ => .none

def St.eval (s : St) : Operand → AV
  | .tmp t => (s.tmps[t]?).getD .junk
  | .const v => AV.ofConst v
  | .global _ => .junk
  | .func f => if f < 1000000 then .fn f [] else .junk
def putDst (tmps : List AV) : Option Nat → AV → List AV
  | some d, v => tmps.set d v
  | none, _ => tmps
def updH (h : List AB) : Option (Nat × AB) → List AB
  | some (k, b) => h.set k b
  | none => h
def applyU (h : List AB) (us : List (Nat × AB)) : List AB := us.foldl (fun h u => h.set u.1 u.2) h
/-- Is a block there? -/
def thereA (h : List AB) (k : Nat) : Bool := match h[k]? with | some .gone => false | some _ => true | none => false
def setNb (h : List AB) (key : Nat) : Option AB → List AB
  | some b => h.set key b
  | none => h
def pushNb (h : List AB) : Option AB → List AB
  | some b => h ++ [b]
  | none => h

/-- A row that is sliced is written no more: from then on it is only read. -/
def fzA (tmps : List AV) (h : List AB) (t : Nat) : List AB :=
  match tmps[t]? with
  | some (.sl k) => match h[k]? with | some (.rows e sh xs) => h.set k (.ext e sh xs) | some (.mix e e2 sh sh2 xs) => h.set k (.mixe e e2 sh sh2 xs) | _ => h
  | _ => h
/-- Variables that a function value has captured are written no more. -/
def fzC : List (Nat × Nat) → List AB → List AB
  | [], h => h
  | x :: t, h => fzC t (match h[x.1]? with | some (.cells cs) => h.set x.1 (.rcells cs) | _ => h)
def fzH (mv : Bool) (tmps : List AV) (h : List AB) (o : Oper) : List AB :=
  if (mv && movS o) = true then h else
  match o.op with
  | .slice _ (.tmp t) _ _ _ => fzA tmps h t
  | .buildSlice _ _ parts => match parts.toList with | [(0, .tmp t)] => fzA tmps h t | _ => h
  | _ => h
/-- Where a slot's value is moved from, in a region. -/
def srcOf (ops : List Oper) : Nat → Nat → Nat
  | 0, t => t
  | n + 1, t =>
    match ops.zipIdx.find? (fun p => match p.1.dst with | some d => d == t | none => false) with
    | some (o, i) => match o.op with | .move (.tmp s) => srcOf (ops.take i) n s | .assign (.tmp s) => srcOf (ops.take i) n s | _ => t
    | none => t
def fzL (mv : Bool) (ops : List Oper) (tmps : List AV) : List Oper → List AB → List AB
  | [], h => h
  | o :: l, h => if (mv && movS o) = true then fzL mv ops tmps l h else match o.op with | .slice _ (.tmp t) _ _ _ => fzL mv ops tmps l (fzA tmps h (srcOf ops 5 t)) | .buildSlice _ _ parts => (match parts.toList with | [(0, .tmp t)] => fzL mv ops tmps l (fzA tmps h (srcOf ops 5 t)) | _ => fzL mv ops tmps l h) | _ => fzL mv ops tmps l h

/-- What a slot will hold in a region, as far as it is read out of what was there. -/
def preV (P : Program) (ops : List Oper) (tmps : List AV) (h : List AB) : Nat → Nat → AV
  | 0, _ => .junk
  | n + 1, t =>
    match ops.find? (fun o => match o.dst with | some d => d == t | none => false) with
    | some o =>
      match o.op with
      | .move (.tmp s) => preV P ops tmps h n s
      | .assign (.tmp s) => preV P ops tmps h n s
      | .nilCheck (.tmp s) => preV P ops tmps h n s
      | .fieldAddr s (.tmp x) f => match fieldOf P s f, preV P ops tmps h n x with | some fd, .ptr k o => .ptr k (o + fd.offset) | _, _ => .junk
      | .load _ (.tmp s) =>
        match preV P ops tmps h n s with
        | .ptr k o => (match h[k]? with | some (.cells cs) => (cs[o]?).getD .junk | some (.rcells cs) => (cs[o]?).getD .junk | _ => .junk)
        | _ => .junk
      | _ => .junk
    | none => (tmps[t]?).getD .junk
def fzK (h : List AB) (v : AV) : List AB :=
  match v with
  | .sl k => match h[k]? with | some (.rows e sh xs) => h.set k (.ext e sh xs) | some (.mix e e2 sh sh2 xs) => h.set k (.mixe e e2 sh sh2 xs) | _ => h
  | _ => h
/-- Rows that a region reads out of memory and slices. -/
def fzM (P : Program) (mv : Bool) (ops : List Oper) (tmps : List AV) : List Oper → List AB → List AB
  | [], h => h
  | o :: l, h => if (mv && movS o) = true then fzM P mv ops tmps l h else match o.op with | .slice _ (.tmp t) _ _ _ => fzM P mv ops tmps l (fzK h (preV P ops tmps h 8 t)) | _ => fzM P mv ops tmps l h

/-- Is an operation done? (its guard) -/
def guardA (ops : Array Oper) (tmps : List AV) (o : Oper) : Option Bool :=
  match o.guard with
  | none => some true
  | some (j, want) =>
    match (ops[j]?).bind (·.dst) with
    | some d => match tmps[d]? with
      | some (.bool b) => some (b == want)
      | some (.tup []) => some false
      | _ => none
    | none => none

/-! A region that draws its order: the operations that come before each, by its edges. -/
def predsOf (o : Oper) : Nat := o.after.toList.foldl (fun s e => if Region.binds .any e then s ||| 2 ^ e.on else s) 0
/-- All that comes before operation i, as bits. -/
def closureOf (ops : List Oper) : List Nat :=
  ops.foldl (fun acc o => acc ++ [o.after.toList.foldl (fun s e => if Region.binds .any e then s ||| 2 ^ e.on ||| acc.getD e.on 0 else s) 0]) []
def bitAt (n i : Nat) : Bool := n.testBit i
/-- The heap as operation i sees it: what others make in this region and need not be made yet is hidden. -/
def maskFrom (base pred : Nat) : Nat → List AB → List AB
  | _, [] => []
  | i, b :: t => (if i < base || bitAt pred ((i - base) / 12) then b else .gone) :: maskFrom base pred (i + 1) t

/-- New blocks, from a key on. -/
def setNbs (h : List AB) (key : Nat) : List AB → List AB
  | [] => h
  | b :: t => setNbs (h.set key b) (key + 1) t
/-- The first region's number in a piece of code: a loop's name. -/
def firstRegion : Code → Option Nat
  | .region id _ _ => some id
  | .seq a b => (firstRegion a).orElse fun _ => firstRegion b
  | .cond _ a b => (firstRegion a).orElse fun _ => firstRegion b
  | .block _ a => firstRegion a
  | .loop a => firstRegion a
  | .scope a => firstRegion a
  | _ => none

def memW (o : Oper) : Bool :=
  match o.op with
  | .store .. => true
  | .call c => match c.callee with | .builtin .append => true | _ => false
  | _ => false
/-- Does an operation write? A call does, where its contract says so. -/
def memE (E : Env) (o : Oper) : Bool :=
  memW o || (E.mv && movS o) || (match o.op with | .call c => (match c.callee with | .value (.func f) => (match E.orc f with | some fc => fc.eff | none => false) | _ => false) | _ => false)
/-- The operation of a region that made the block which a store writes: told by the text; stepD checks it. -/
def rootOf (ops : List Oper) : Nat → Nat → Option Nat
  | 0, _ => none
  | n + 1, t =>
    match ops.zipIdx.find? (fun p => match p.1.dst with | some d => d == t | none => false) with
    | some (o, i) =>
      match o.op with
      | .alloc _ => some i
      | .box _ _ => some i
      | .buildSlice _ _ _ => some i
      | .makeSlice _ _ _ => some i
      | .call c => (match c.callee with | .builtin .append => some i | _ => none)
      | .move (.tmp s) => rootOf ops n s
      | .assign (.tmp s) => rootOf ops n s
      | .nilCheck (.tmp s) => rootOf ops n s
      | .fieldAddr _ (.tmp s) _ => rootOf ops n s
      | .indexAddr _ (.tmp s) _ => rootOf ops n s
      | _ => none
    | none => none
def locOf (ops : Array Oper) (o : Oper) : Option Nat :=
  match o.op with
  | .store _ (.tmp s) _ => rootOf ops.toList 8 s
  | _ => none
def locOK (ops : Array Oper) (base : Nat) (o : Oper) : Option (Nat × AB) → Bool
  | none => true
  | some (k, _) => match locOf ops o with | some q => decide (base + 12 * q ≤ k) && decide (k < base + 12 * q + 12) | none => true
/-- The block that a load or a store asks for, where the region's text and the slots ahead of it tell: it is checked at the operation. -/
def rootKey : AV → Option Nat
  | .ptr k _ => some k
  | .elt k _ _ _ => some k
  | .sl k => some k
  | _ => none
def addrOp (o : Oper) : Option Operand :=
  match o.op with
  | .load _ a => some a
  | .store _ a _ => some a
  | .slice _ a _ _ none => some a
  | .indexAddr _ a _ => some a
  | _ => none
def keyOp (o : Oper) : Option Operand :=
  match o.op with
  | .load _ a => some a
  | .store _ a _ => some a
  | .slice _ a _ _ none => some a
  | .indexAddr _ a _ => some a
  | .call c => match c.callee with | .builtin .append => c.args.toList.head? | _ => none
  | _ => none
def outOf (ops : List Oper) : Nat → Nat → Option Nat
  | 0, _ => none
  | n + 1, t =>
    match ops.find? (fun p => match p.dst with | some d => d == t | none => false) with
    | some o =>
      match o.op with
      | .move (.tmp s) => outOf ops n s
      | .assign (.tmp s) => outOf ops n s
      | .nilCheck (.tmp s) => outOf ops n s
      | .fieldAddr _ (.tmp s) _ => outOf ops n s
      | .indexAddr _ (.tmp s) _ => outOf ops n s
      | _ => none
    | none => some t
def annOf (ops : List Oper) (tmps : List AV) (base : Nat) (o : Oper) : Option Nat :=
  match keyOp o with
  | some (.tmp s) =>
    match rootOf ops 8 s with
    | some q => some (base + 12 * q)
    | none => match outOf ops 8 s with | some r => (tmps[r]?).bind rootKey | none => none
  | _ => none
/-- Each operation looks at those that stand ahead of it. -/
def annsFrom (tmps : List AV) (base : Nat) : List Oper → List Oper → List (Option Nat)
  | _, [] => []
  | pre, o :: t => annOf pre tmps base o :: annsFrom tmps base (pre ++ [o]) t
def keyOK (an : List (Option Nat)) (i : Nat) (ev : Operand → AV) (o : Oper) : Bool :=
  match an.getD i none, keyOp o with
  | some k, some a => decide (rootKey (ev a) = some k)
  | _, _ => true
def sepOf (an : List (Option Nat)) (i j : Nat) (o p : Oper) : Bool :=
  match an.getD i none, an.getD j none, keyOp o, addrOp p with
  | some k, some k', some _, some _ => decide (k ≠ k')
  | _, _, _, _ => false
/-- What a store of a region's own block writes is not seen by an operation that the block's making does not come before. -/
def hidOf (ops : Array Oper) (cl : List Nat) (o : Oper) (j : Nat) : Bool :=
  match locOf ops o with
  | some q => !bitAt (cl.getD j 0) q
  | none => false
def stepD (E : Env) (ops : Array Oper) (cl : List Nat) (an : List (Option Nat)) (base : Nat) (i : Nat) (st : St) : Option St :=
  match ops[i]? with
  | none => some st
  | some o =>
    match guardA ops st.tmps o with
    | none => none
    | some g =>
    bif g then
      match den E (base + 12 * i) st.eval (maskFrom base (cl.getD i 0) 0 st.h) o with
      | .val c v nb u => bif c then (if (locOK ops base o u && keyOK an i st.eval o) = true then some ⟨putDst st.tmps o.dst v, setNb (updH st.h u) (base + 12 * i) nb⟩ else none) else none
      | .call _ _ _ m v nb up => m.bind fun r => if (nb r).length ≤ 12 ∧ (up r).all (fun u => memE E o && thereA (maskFrom base (cl.getD i 0) 0 st.h) u.1) = true then some ⟨putDst st.tmps o.dst (v r), setNbs (applyU st.h (up r)) (base + 12 * i) (nb r)⟩ else none
      | _ => none
    else some ⟨putDst st.tmps o.dst (.tup []), st.h⟩

/-- Operands that are read: the slots. -/
def readsT (ops : Array Oper) (o : Oper) : List Nat :=
  (o.op.operands.toList.filterMap fun | .tmp t => some t | _ => none) ++ (match o.guard with | some (j, _) => ((ops[j]?).bind (·.dst)).toList | none => [])
def memR (E : Env) (o : Oper) : Bool :=
  match o.op with
  | .load .. | .indexAddr .. => true
  | .buildSlice t _ _ => (match E.P.underlying t with | some (.slice e) => (nestT E.P e).isSome || (mixT E.P e).isSome | _ => false)
  | .store .. | .slice .. => true
  | .call c => match c.callee with | .builtin .min | .builtin .max => false | _ => true
  | _ => false
def apartOK (E : Env) (ops : Array Oper) (cl : List Nat) (an : List (Option Nat)) (i j : Nat) (o p : Oper) : Bool :=
  (o.dst.toList.all fun d => !(readsT ops p).contains d && !p.dst.toList.contains d) &&
  (p.dst.toList.all fun d => !(readsT ops o).contains d) &&
  (!(memE E o && memR E p) || hidOf ops cl o j || sepOf an i j o p) && (!(memR E o && memE E p) || hidOf ops cl p i || sepOf an j i p o)
def drawOK (E : Env) (ops : Array Oper) (cl : List Nat) (an : List (Option Nat)) : Bool :=
  (List.range ops.size).all fun j => (List.range j).all fun i =>
    bitAt (cl.getD j 0) i || (match ops[i]?, ops[j]? with | some o, some p => apartOK E ops cl an i j o p | _, _ => false)
/-- Each edge leads to an operation that stands ahead in the text. -/
def edgesOK (ops : Array Oper) : Bool :=
  (List.range ops.size).all fun j => match ops[j]? with | some o => o.after.toList.all fun e => !Region.binds .any e || decide (e.on < j) | none => false

/-- What the closure tells is told by the edges. -/
def closOK (ops : Array Oper) (cl : List Nat) : Bool :=
  (List.range ops.size).all fun b => (List.range ops.size).all fun i =>
    !bitAt (cl.getD b 0) i || (match ops[b]? with | some o => o.after.toList.any fun e => Region.binds .any e && decide (e.on < b) && (e.on == i || bitAt (cl.getD e.on 0) i) | none => false)

section
variable {R : Type} (E : Env) (call : FuncId → List AV → List AB → (AV → List AB → Option R) → Option R)
def evOps (ops : Array Oper) (k : St → Option R) : List Nat → St → Option R
  | [], st => k st
  | i :: rest, st =>
    match ops[i]? with
    | none => evOps ops k rest st
    | some o =>
      match guardA ops st.tmps o with
      | none => none
      | some g =>
      bif g then
        match den E (fzH E.mv st.tmps st.h o).length (St.eval ⟨st.tmps, fzH E.mv st.tmps st.h o⟩) (fzH E.mv st.tmps st.h o) o with
        | .none => none
        | .val c v nb u => bif c then evOps ops k rest ⟨putDst st.tmps o.dst v, pushNb (updH (fzH E.mv st.tmps st.h o) u) nb⟩ else none
        | .call _ _ _ m v nb up => m.bind fun r => evOps ops k rest ⟨putDst st.tmps o.dst (v r), applyU (fzH E.mv st.tmps st.h o) (up r) ++ nb r⟩
        | .enter f args => call f args (fzH E.mv st.tmps st.h o) fun v h => evOps ops k rest ⟨putDst st.tmps o.dst v, h⟩
      else evOps ops k rest ⟨putDst st.tmps o.dst (.tup []), st.h⟩
/-- A region that draws its order, in the text's order. -/
def evOpsD (ops : Array Oper) (cl : List Nat) (an : List (Option Nat)) (base : Nat) (k : St → Option R) : List Nat → St → Option R
  | [], st => k st
  | i :: rest, st =>
    match ops[i]? with
    | none => evOpsD ops cl an base k rest st
    | some o =>
      match guardA ops st.tmps o with
      | none => none
      | some g =>
      bif g then
        match den E (base + 12 * i) st.eval (maskFrom base (cl.getD i 0) 0 st.h) o with
        | .val c v nb u => bif c then (if (locOK ops base o u && keyOK an i st.eval o) = true then evOpsD ops cl an base k rest ⟨putDst st.tmps o.dst v, setNb (updH st.h u) (base + 12 * i) nb⟩ else none) else none
        | .call _ _ _ m v nb up => m.bind fun r => if (nb r).length ≤ 12 ∧ (up r).all (fun u => memE E o && thereA (maskFrom base (cl.getD i 0) 0 st.h) u.1) = true then evOpsD ops cl an base k rest ⟨putDst st.tmps o.dst (v r), setNbs (applyU st.h (up r)) (base + 12 * i) (nb r)⟩ else none
        | _ => none
      else evOpsD ops cl an base k rest ⟨putDst st.tmps o.dst (.tup []), st.h⟩

/-- The guard's slot, where its value is known. -/
def pinG (ops : Array Oper) (tmps : List AV) (o : Oper) (t : Bool) : List AV :=
  match o.guard with
  | none => tmps
  | some (j, want) => match (ops[j]?).bind (·.dst) with | some d => (match tmps[d]? with | some (.bool _) => tmps.set d (.bool (t == want)) | _ => tmps) | none => tmps
def pinC (st : St) (c : Operand) (t : Bool) : St :=
  match c with
  | .tmp d => ⟨st.tmps.set d (.bool t), st.h⟩
  | _ => st
/-- 'evOps', where a guard's value is known behind it. -/
def evOpsP (ops : Array Oper) (k : St → Option R) : List Nat → St → Option R
  | [], st => k st
  | i :: rest, st =>
    match ops[i]? with
    | none => evOpsP ops k rest st
    | some o =>
      match guardA ops st.tmps o with
      | none => none
      | some g =>
      bif g then
        match den E (fzH E.mv st.tmps st.h o).length (St.eval ⟨pinG ops st.tmps o true, fzH E.mv st.tmps st.h o⟩) (fzH E.mv st.tmps st.h o) o with
        | .none => none
        | .val c v nb u => bif c then evOpsP ops k rest ⟨putDst (pinG ops st.tmps o true) o.dst v, pushNb (updH (fzH E.mv st.tmps st.h o) u) nb⟩ else none
        | .call _ _ _ m v nb up => m.bind fun r => evOpsP ops k rest ⟨putDst (pinG ops st.tmps o true) o.dst (v r), applyU (fzH E.mv st.tmps st.h o) (up r) ++ nb r⟩
        | .enter f args => call f args (fzH E.mv st.tmps st.h o) fun v h => evOpsP ops k rest ⟨putDst (pinG ops st.tmps o true) o.dst v, h⟩
      else evOpsP ops k rest ⟨putDst (pinG ops st.tmps o false) o.dst (.tup []), st.h⟩
def evOpsDP (ops : Array Oper) (cl : List Nat) (an : List (Option Nat)) (base : Nat) (k : St → Option R) : List Nat → St → Option R
  | [], st => k st
  | i :: rest, st =>
    match ops[i]? with
    | none => evOpsDP ops cl an base k rest st
    | some o =>
      match guardA ops st.tmps o with
      | none => none
      | some g =>
      bif g then
        match den E (base + 12 * i) (St.eval ⟨pinG ops st.tmps o true, st.h⟩) (maskFrom base (cl.getD i 0) 0 st.h) o with
        | .val c v nb u => bif c then (if (locOK ops base o u && keyOK an i (St.eval ⟨pinG ops st.tmps o true, st.h⟩) o) = true then evOpsDP ops cl an base k rest ⟨putDst (pinG ops st.tmps o true) o.dst v, setNb (updH st.h u) (base + 12 * i) nb⟩ else none) else none
        | .call _ _ _ m v nb up => m.bind fun r => if (nb r).length ≤ 12 ∧ (up r).all (fun u => memE E o && thereA (maskFrom base (cl.getD i 0) 0 st.h) u.1) = true then evOpsDP ops cl an base k rest ⟨putDst (pinG ops st.tmps o true) o.dst (v r), setNbs (applyU st.h (up r)) (base + 12 * i) (nb r)⟩ else none
        | _ => none
      else evOpsDP ops cl an base k rest ⟨putDst (pinG ops st.tmps o false) o.dst (.tup []), st.h⟩

/-- The rounds of a loop, by their states. -/
def roundL (lc : LC) (F : lc.X → Option lc.Y) (body : St → (Ex → St → Option lc.Y) → Option lc.Y) (x : lc.X) : Option lc.Y :=
  body (lc.put x) fun e st' => match e with | .normal => (lc.get st').bind F | e => lc.getX e st'

/-- The rounds of a loop of which nothing is known, one by one. -/
def loopN (body : St → (Ex → St → Option R) → Option R) (k : Ex → St → Option R) : Nat → St → Option R
  | 0, _ => none
  | n + 1, st => body st fun e st' => match e with | .normal => loopN body k n st' | e => k e st'
/-- A number, one of a few. -/
def splitI (i : Int) (f : Nat → Option R) : Nat → Nat → Option R
  | _, 0 => none
  | j, n + 1 => bif decide (i = (j : Int)) then f j else splitI i f (j + 1) n
/-- The places of arrays that a region asks for, by slots that it does not write: each is told as a number. -/
def ixOps (P : Program) (ops : List Oper) : List (Nat × Nat) :=
  ops.filterMap fun o =>
    match (match o.op with | .indexAddr t _ (.tmp s) => some (t, srcOf ops 5 s) | .index t _ (.tmp s) => some (t, srcOf ops 5 s) | _ => none) with
    | some (t, s) => (match P.underlying t with
      | some (.array n _) => if n ≤ 16 ∧ (ops.all fun p => match p.dst with | some d => d != s | none => true) = true then some (s, n) else none
      | _ => none)
    | none => none
def pinIx (k : St → Option R) : List (Nat × Nat) → St → Option R
  | [], st => k st
  | (s, n) :: t, st =>
    match st.tmps[s]? with
    | some (.int q i) => splitI i (fun j => pinIx k t ⟨st.tmps.set s (.int q (j : Int)), st.h⟩) 0 n
    | _ => pinIx k t st

def evC : Code → St → (Ex → St → Option R) → Option R
  | .skip, st, k => k .normal st
  | .region _ ops draw, st0, k =>
    pinIx (fun st =>
    if draw then
      if drawOK E ops (closureOf ops.toList) (annsFrom st.tmps (fzL E.mv ops.toList st.tmps ops.toList (fzM E.P E.mv ops.toList st.tmps ops.toList st.h)).length [] ops.toList) && edgesOK ops && closOK ops (closureOf ops.toList) then
        evOpsDP E ops (closureOf ops.toList) (annsFrom st.tmps (fzL E.mv ops.toList st.tmps ops.toList (fzM E.P E.mv ops.toList st.tmps ops.toList st.h)).length [] ops.toList) (fzL E.mv ops.toList st.tmps ops.toList (fzM E.P E.mv ops.toList st.tmps ops.toList st.h)).length (k .normal) (List.range ops.size) ⟨st.tmps, fzL E.mv ops.toList st.tmps ops.toList (fzM E.P E.mv ops.toList st.tmps ops.toList st.h) ++ List.replicate (12 * ops.size) .gone⟩
      else none
    else evOpsP E call ops (k .normal) (List.range ops.size) st) (E.pins ++ ixOps E.P ops.toList) st0
  | .seq a b, st, k => evC a st fun e st' => match e with | .normal => evC b st' k | e => k e st'
  | .cond c a b, st, k => match st.eval c with | .bool t => bif t then evC a (pinC st c true) k else evC b (pinC st c false) k | _ => none
  | .block id a, st, k => evC a st fun e st' => match e with | .exit i => if i = id then k .normal st' else k (.exit i) st' | e => k e st'
  | .loop a, st, k =>
    match (firstRegion a).bind E.lorc with
    | some lc => (lc.get st).bind fun x => (lc.run E.N x).bind fun y => lc.elim y k
    | none => loopN (evC a) k E.unr st
  | .exit id, st, k => k (.exit id) st
  | .ret, st, k => k .ret st
  | .scope a, st, k => evC a st k
  | .label _, st, k => k .normal st
  | .rangeFunc g ps _ body, st, k =>
    match st.eval g, ps.toList with
    | .fn gf cap, [_] =>
      match (firstRegion body).bind E.rorc with
      | some rc => if rc.gf = gf ∧ gf < 1000000 then (rc.dec cap (fzC cap st.h)).bind fun items => (rc.get ⟨st.tmps, fzC cap st.h⟩).bind fun x => (rc.run E.N items x).bind fun y => k .normal (rc.put y) else none
      | none => none
    | _, _ => none
  | _, _, _ => none

def resItem (r : ResultVar) (st : St) : Option AV :=
  match r with
  | .tmp t => match st.tmps[t]? with | some (.tup _) => none | x => x
  | .cell a t => match st.tmps[a]? with
    | some p => match loadA st.h p (E.P.cellsOf t) with
      | some cs => match ofCells E.P t cs with | some (.tup _) => none | x => x
      | none => none
    | none => none
def resOf (fn : Func) (st : St) : Option AV :=
  match fn.results.toList.mapM (fun r => resItem E r st) with
  | some [v] => some v
  | some vs => some (.tup vs)
  | none => none
end

def Env.plain (E : Env) : Env := { E with lorc := fun _ => none, pins := [], rorc := fun _ => none }
/-- An inlined call. -/
def evFn {R : Type} (E : Env) : Nat → FuncId → List AV → List AB → (AV → List AB → Option R) → Option R
  | 0, _, _, _, _ => none
  | d + 1, f, args, h, k =>
    match E.P.funcs[f]? with
    | none => none
    | some fn =>
      match fn.body with
      | none => none
      | some c => evC E (evFn E.plain d) c ⟨args ++ List.replicate (fn.ntmps - args.length) .junk, h⟩ fun e st =>
        match e with
        | .exit _ => none
        | _ => match resOf E fn st with | some v => k v st.h | none => none
end Go.Ev
