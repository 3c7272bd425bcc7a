/- Tom, the tree-ownership machine: a deterministic reading of the program's simplified code on values (slices as trees that one place owns, local variables in memory as named boxes). This text defines it. The machine without a bound on its depth: 'ev' and 'F' are what the machine answers at some depth; their equations. What the machine is told of functions of Go's library: their answers on trees. -/
import GoSem.Step
/-! Tom, the tree-ownership machine: a deterministic reading of the program's simplified code on values (slices as trees that one place owns, local variables in memory as named boxes). This text defines it. -/
namespace Go.Proofs.Ytekfjbejfondnaa.Tom
open Go

abbrev Key := Nat × Nat
abbrev Path := List (Nat × Nat)
structure Loc where
  key : Key
  path : Path
  deriving DecidableEq

/-- Whose memory: one's own, lent by the caller, or such that nobody writes it. -/
inductive Ro where
  | own
  | lent
  | stat
  deriving DecidableEq, Inhabited

/-- A tree: what one cell holds, with all that it owns. 'agg' (a struct), 'ptr' (a variable's cells) and 'fn' stand at the top alone: in arguments and results. -/
inductive T where
  | val (v : Value)
  | nil
  | arr (ro : Ro) (es : Nat) (el : List (List T))
  | ptr (cells : List T)
  | agg (l : List T)
  | fn (f : Nat) (caps : List T)
  | dead
  deriving Inhabited

/-- What a temporary or a cell of a local variable holds. 'bx d c': the address of cell c of the variable d. -/
inductive V where
  | val (v : Value)
  | nil
  | sl (L : Loc) (off len : Nat)
  | pt (L : Loc) (i c : Nat)
  | bx (d c : Nat)
  | agg (l : List V)
  | tup (l : List V)
  | fn (f : Nat) (caps : List V)
  | un
  deriving Inhabited

structure Node where
  ro : Ro
  es : Nat
  el : List (List T)

/-- A slot: (t, 0) is the temporary t, (d, c + 1) the cell c of the variable d. -/
abbrev Slot := Nat × Nat

inductive Ent where
  | s (t : Slot) (v : V)
  | b (p : List Loc)

abbrev Env := List Ent
abbrev Roots := List (Key × Node)

structure St where
  e : Env
  r : Roots
  b : List (Nat × Nat)

def Loc.ext (L : Loc) (i j : Nat) : Loc := ⟨L.key, L.path ++ [(i, j)]⟩
def boxLoc (d : Nat) : Loc := ⟨(d, 7777777), []⟩

/-- Is the first path a prefix of the second, the elements' numbers left out of account? -/
def pfx : Path → Path → Bool
  | [], _ => true
  | (_, j) :: p, (_, k) :: q => j == k && pfx p q
  | _ :: _, [] => false

def hit : List Loc → Loc → Bool
  | [], _ => false
  | x :: p, L => (x.key == L.key && pfx x.path L.path) || hit p L

mutual
def pois (p : List Loc) : V → V
  | .sl L o n => if hit p L then .un else .sl L o n
  | .pt L i c => if hit p L then .un else .pt L i c
  | .bx d c => if hit p (boxLoc d) then .un else .bx d c
  | .agg l => .agg (poisL p l)
  | .tup l => .tup (poisL p l)
  | .fn f l => .fn f (poisL p l)
  | .val v => .val v
  | .nil => .nil
  | .un => .un
def poisL (p : List Loc) : List V → List V
  | [] => []
  | v :: l => pois p v :: poisL p l
end

def lk : Env → Slot → V
  | [], _ => .un
  | .s u v :: r, t => if u = t then v else lk r t
  | .b p :: r, t => pois p (lk r t)

def getR : Roots → Key → Option Node
  | [], _ => none
  | (k, n) :: r, k' => if k = k' then some n else getR r k'

def delR : Roots → Key → Roots
  | [], _ => []
  | (k, n) :: r, k' => if k = k' then delR r k' else (k, n) :: delR r k'

def setR : Roots → Key → Node → Roots
  | [], _, _ => []
  | (k, n) :: r, k', m => if k = k' then (k, m) :: r else (k, n) :: setR r k' m

def getB : List (Nat × Nat) → Nat → Option Nat
  | [], _ => none
  | (d, n) :: b, d' => if d = d' then some n else getB b d'

def Ro.under : Ro → Ro → Ro
  | .own, o => o
  | r, _ => r

def cellAt (el : List (List T)) (i j : Nat) : Option T := (el[i]?).bind fun row => row[j]?

def T.node (ro : Ro) : T → Option Node
  | .arr o es el => some ⟨ro.under o, es, el⟩
  | _ => none

def walk : Node → Path → Option Node
  | n, [] => some n
  | n, (i, j) :: p => (cellAt n.el i j).bind fun t => (t.node n.ro).bind fun m => walk m p

def nodeAt (r : Roots) (L : Loc) : Option Node := (getR r L.key).bind fun n => walk n L.path

/-- The elements at a path, changed. -/
def modEl (f : List (List T) → Option (List (List T))) : List (List T) → Path → Option (List (List T))
  | el, [] => f el
  | el, (i, j) :: p => (el[i]?).bind fun row => (row[j]?).bind fun t => match t with
    | .arr o es e => (modEl f e p).map fun e' => el.set i (row.set j (.arr o es e'))
    | _ => none

def modAt (r : Roots) (L : Loc) (f : List (List T) → Option (List (List T))) : Option Roots :=
  (getR r L.key).bind fun n => (modEl f n.el L.path).map fun el => setR r L.key ⟨n.ro, n.es, el⟩

/-- Cells written into a row from place c on. -/
def putRow (row : List T) (c : Nat) (ts : List T) : Option (List T) :=
  if c + ts.length ≤ row.length then some (row.take c ++ ts ++ row.drop (c + ts.length)) else none

def putCells (i c : Nat) (ts : List T) (el : List (List T)) : Option (List (List T)) :=
  (el[i]?).bind fun row => (putRow row c ts).map fun row' => el.set i row'

def cut (el : List (List T)) (off len : Nat) : List (List T) := (el.drop off).take len

/-- A cell as a value: a tree in it is named by its place. -/
def cellV (L : Loc) (i j : Nat) : T → V
  | .val v => .val v
  | .nil => .nil
  | .arr _ _ el => .sl (L.ext i j) 0 el.length
  | _ => .un

def cellsV (L : Loc) (i : Nat) : Nat → List T → List V
  | _, [] => []
  | j, t :: l => cellV L i j t :: cellsV L i (j + 1) l

def plainT : T → Bool
  | .val _ | .nil | .dead => true
  | _ => false
def plainRow : List T → Bool
  | [] => true
  | t :: l => plainT t && plainRow l
def plain : List (List T) → Bool
  | [] => true
  | r :: l => plainRow r && plain l

/-- A nil slice where a slice of elements of es cells may stand: an empty one. -/
def T.fat (ro : Ro) : Option Nat → T → T
  | some es, .nil => .arr ro es []
  | _, t => t

/-- One cell's tree out of a value: what is owned is moved (its root goes, or its place is dead); what is not owned is named again. -/
def takeC (r : Roots) : V → Option (T × Roots)
  | .val v => some (.val v, r)
  | .nil => some (.nil, r)
  | .un => some (.dead, r)
  | .sl L off len => (nodeAt r L).bind fun n =>
    if off + len ≤ n.el.length then
      match n.ro with
      | .own => match L.path.getLast? with
        | none => some (.arr .own n.es (cut n.el off len), delR r L.key)
        | some (i, j) => (modAt r ⟨L.key, L.path.dropLast⟩ (putCells i j [.dead])).map fun r' => (.arr .own n.es (cut n.el off len), r')
      | o => some (.arr o n.es (cut n.el off len), r)
    else none
  | _ => none

abbrev Fat := List (Option Nat)
def Fat.hd : Fat → Option Nat
  | [] => none
  | f :: _ => f
def Fat.tl : Fat → Fat
  | [] => []
  | _ :: fs => fs

def takeCs (r : Roots) : Fat → List V → Option (List T × Roots)
  | _, [] => some ([], r)
  | fs, v :: l => (takeC r v).bind fun x => (takeCs x.2 fs.tl l).map fun y => (x.1.fat .own fs.hd :: y.1, y.2)

def takeRows (r : Roots) (fs : Fat) : List (List V) → Option (List (List T) × Roots)
  | [] => some ([], r)
  | v :: l => (takeCs r fs v).bind fun x => (takeRows x.2 fs l).map fun y => (x.1 :: y.1, y.2)

def V.cells : V → List V
  | .agg l => l
  | v => [v]

/-- Is it surely the value of one cell? -/
def V.sure : V → Bool
  | .un | .agg _ | .tup _ => false
  | _ => true

def solid : T → Bool
  | .arr .. => true
  | _ => false

/-- What is to be poisoned behind a store of these cells from (L, i, c) on. -/
def poisOf (L : Loc) (i c : Nat) (ts : List T) : List Loc :=
  if ts.any solid then (List.range ts.length).map fun k => L.ext i (c + k) else []

/-- What is lent of one's own is lent; what was lent, or is nobody's, stays so. -/
def Ro.lend : Ro → Ro
  | .own => .lent
  | r => r

/-- Lent: a tree that may be read. -/
def lend (r : Roots) : V → Option T
  | .val v => some (.val v)
  | .nil => some .nil
  | .un => some .dead
  | .sl L off len => (nodeAt r L).bind fun n => if off + len ≤ n.el.length then some (.arr n.ro.lend n.es (cut n.el off len)) else none
  | _ => none

def lends (r : Roots) : Fat → List V → Option (List T)
  | _, [] => some []
  | fs, v :: l => (lend r v).bind fun t => (lends r fs.tl l).map fun ts => t.fat .stat fs.hd :: ts

def lendAs (r : Roots) : List V → Option (List T)
  | [] => some []
  | .agg l :: cs => (lends r [] l).bind fun t => (lendAs r cs).map fun ts => .agg t :: ts
  | v :: cs => (lend r v).bind fun t => (lendAs r cs).map fun ts => t :: ts

def lendA (r : Roots) (fs : Fat) : V → Option T
  | .agg l => (lends r fs l).map .agg
  | .fn f caps => (lendAs r caps).map (.fn f)
  | v => (lend r v).map fun t => t.fat .stat fs.hd

/-- How an argument is handed over: lent, or handed with the right to write: a slice's elements, the slices' in a struct, or the cells behind a pointer (as many as are listed). -/
inductive Hand where
  | lent (fs : Fat)
  | row (fs : Fat)
  | rows (fs : Fat)
  | cells (fs : Fat)
  deriving Inhabited

def handRow (r : Roots) (f : Option Nat) : V → Option T
  | .sl L off len => (nodeAt r L).bind fun n => if n.ro = .own ∧ off = 0 ∧ len = n.el.length then some (.arr .own n.es n.el) else none
  | .val v => some (.val v)
  | .nil => some (T.nil.fat .own f)
  | _ => none

def handRows (r : Roots) : Fat → List V → Option (List T)
  | _, [] => some []
  | fs, v :: l => (handRow r fs.hd v).bind fun t => (handRows r fs.tl l).map fun ts => t :: ts

/-- The cells of a variable, from c on. -/
def boxCells (e : Env) (d c : Nat) : Nat → List V
  | 0 => []
  | n + 1 => lk e (d, c + 1) :: boxCells e d (c + 1) n

mutual
/-- Is nothing in the tree lent? (What is lent can't be handed back.) -/
def clean : T → Bool
  | .arr .lent _ _ => false
  | .arr .stat _ _ => true
  | .arr .own _ el => cleanLL el
  | .ptr l => cleans l
  | .agg l => cleans l
  | .fn _ l => cleans l
  | _ => true
def cleans : List T → Bool
  | [] => true
  | t :: l => clean t && cleans l
def cleanLL : List (List T) → Bool
  | [] => true
  | r :: l => cleans r && cleanLL l
end

/-- What is handed, and the roots behind (the cells behind a pointer are moved). -/
def handA (e : Env) (r : Roots) (b : List (Nat × Nat)) : Hand → V → Option (T × Roots)
  | .lent fs, v => (lendA r fs v).map fun t => (t, r)
  | .row fs, v => (handRow r fs.hd v).map fun t => (t, r)
  | .rows fs, .agg l => (handRows r fs l).map fun t => (.agg t, r)
  | .cells fs, .bx d c => (getB b d).bind fun m => if c + fs.length ≤ m then
      (takeCs r fs (boxCells e d c fs.length)).bind fun x => if cleans x.1 then some (.ptr x.1, x.2) else none else none
  | _, _ => none

/-- The pointers' cells first: what they own is out of reach of the other arguments. -/
def handPtrs (e : Env) (r : Roots) (b : List (Nat × Nat)) : List (Hand × V) → Option (List (Option T) × Roots)
  | [] => some ([], r)
  | (.cells n, v) :: l => (handA e r b (.cells n) v).bind fun x => (handPtrs e x.2 b l).map fun y => (some x.1 :: y.1, y.2)
  | _ :: l => (handPtrs e r b l).map fun y => (none :: y.1, y.2)

def handRest (e : Env) (r : Roots) (b : List (Nat × Nat)) : List (Hand × V) → List (Option T) → Option (List T)
  | [], _ => some []
  | _ :: l, some t :: ts => (handRest e r b l ts).map fun us => t :: us
  | (h, v) :: l, none :: ts => (handA e r b h v).bind fun x => (handRest e r b l ts).map fun us => x.1 :: us
  | _ :: _, [] => none

mutual
def V.locs : V → List Loc
  | .sl L _ _ => [L]
  | .pt L _ _ => [L]
  | .agg l => locsL l
  | .tup l => locsL l
  | .fn _ l => locsL l
  | _ => []
def locsL : List V → List Loc
  | [] => []
  | v :: l => v.locs ++ locsL l
end

def Loc.meets (L M : Loc) : Bool := L.key == M.key && (pfx L.path M.path || pfx M.path L.path)

def claims : Hand → V → List Loc
  | .row _, v => v.locs
  | .rows _, v => v.locs
  | _, _ => []

def nones (l m : List Loc) : Bool := l.all fun L => m.all fun M => !L.meets M

def nodupL : List Loc → Bool
  | [] => true
  | L :: l => (l.all fun M => !L.meets M) && nodupL l

/-- The variables whose cells are handed. -/
def ptrsOf : List (Hand × V) → List Nat
  | [] => []
  | (.cells _, .bx d _) :: l => d :: ptrsOf l
  | _ :: l => ptrsOf l

def nodupB : List Nat → Bool
  | [] => true
  | d :: l => !l.contains d && nodupB l

/-- No array that is handed is met by another argument. -/
def apart : List (Hand × V) → Bool
  | [] => true
  | (h, v) :: l => nodupL (claims h v) && (l.all fun x => nones (claims h v) x.2.locs && nones v.locs (claims x.1 x.2)) && apart l

/-- An array's rows, all of them new. -/
def newEl (new el : List (List T)) : Option (List (List T)) := if new.length = el.length then some new else none

def backRow (r : Roots) : V → T → Option (Roots × List Loc)
  | .sl L _ _, .arr .own es el => (nodeAt r L).bind fun n => if n.ro = .own ∧ n.es = es then (modAt r L (newEl el)).map fun r' =>
      (r', if plain el then [] else (List.range es).map fun j => L.ext 0 j) else none
  | .sl _ _ _, _ => none
  | _, _ => some (r, [])

def backRows (r : Roots) : List V → List T → Option (Roots × List Loc)
  | [], [] => some (r, [])
  | v :: l, t :: ts => (backRow r v t).bind fun x => (backRows x.1 l ts).map fun y => (y.1, x.2 ++ y.2)
  | _, _ => none

/-- A tree laid into a frame, under the root (t, k) where it has one. -/
def impC (t k : Nat) : T → V × Roots
  | .val v => (.val v, [])
  | .nil => (.nil, [])
  | .arr ro es el => (.sl ⟨(t, k), []⟩ 0 el.length, [((t, k), ⟨ro, es, el⟩)])
  | _ => (.un, [])

def impCs (t : Nat) : Nat → List T → List V × Roots
  | _, [] => ([], [])
  | k, x :: l => ((impC t k x).1 :: (impCs t (k + 1) l).1, (impC t k x).2 ++ (impCs t (k + 1) l).2)

/-- Values side by side under one temporary: k counts the cells. -/
def impAs (t : Nat) : Nat → List T → List V × Roots
  | _, [] => ([], [])
  | k, .agg cs :: l => (.agg (impCs t k cs).1 :: (impAs t (k + cs.length) l).1, (impCs t k cs).2 ++ (impAs t (k + cs.length) l).2)
  | k, x :: l => ((impC t k x).1 :: (impAs t (k + 1) l).1, (impC t k x).2 ++ (impAs t (k + 1) l).2)

/-- Slots of a variable's cells. -/
def slots (d : Nat) : Nat → List V → Env
  | _, [] => []
  | c, v :: l => .s (d, c + 1) v :: slots d (c + 1) l

structure Imp where
  v : V
  e : Env
  r : Roots
  b : List (Nat × Nat)

/-- A tree under the temporary (or the argument) t, its roots from (t, k) on. -/
def impA (t k : Nat) : T → Imp
  | .fn f caps => ⟨.fn f (impAs t k caps).1, [], (impAs t k caps).2, []⟩
  | .agg cs => ⟨.agg (impCs t k cs).1, [], (impCs t k cs).2, []⟩
  | .ptr cs => ⟨.bx t 0, slots t 0 (impCs t k cs).1, (impCs t k cs).2, [(t, cs.length)]⟩
  | x => ⟨(impC t k x).1, [], (impC t k x).2, []⟩

/-- A call's results under the temporary that takes them. -/
def impRet (t : Nat) : List T → Imp
  | [x] => impA t 0 x
  | l => ⟨.tup (impAs t 0 l).1, [], (impAs t 0 l).2, []⟩

/-- The arguments, in a frame of their own. -/
def impArgs : Nat → List T → St
  | _, [] => ⟨[], [], []⟩
  | t, x :: l => ⟨.s (t, 0) (impA t 0 x).v :: ((impA t 0 x).e ++ (impArgs (t + 1) l).e), (impA t 0 x).r ++ (impArgs (t + 1) l).r, (impA t 0 x).b ++ (impArgs (t + 1) l).b⟩

inductive Opd where
  | t (i : Nat)
  | c (v : V)
  deriving Inhabited

def Opd.ev (e : Env) : Opd → V
  | .t i => lk e (i, 0)
  | .c v => v

inductive IOp where
  | mv (x : Opd)
  | pick (c a b : Opd)
  | alloc (z : List V)
  | box (n : Nat) (x : Opd)
  | build (z : List V) (ps : List (Nat × Nat × Opd))
  | bslice (fs : Fat) (z : List (List V)) (ps : List (Nat × Opd))
  | load (n : Nat) (agg : Bool) (a : Opd)
  | store (fs : Fat) (a x : Opd)
  | nilchk (x : Opd)
  | bin (op : BinOp) (x y : Opd)
  | beq (neg : Bool) (x y : Opd)
  | eqv (neg : Bool) (ks : List Nat) (x y : Opd)
  | eqn (neg : Bool) (x y : Opd)
  | un (op : UnOp) (x : Opd)
  | conv (k : IntKind) (x : Opd)
  | s2b (x : Opd)
  | b2s (x : Opd)
  | mkfn (f : Nat) (caps : List Opd)
  | mkslice (es bytes : Nat) (z : List T) (len cap : Opd)
  | slice (es : Nat) (x : Opd) (lo hi : Option Opd)
  | sslice (x : Opd) (lo hi : Option Opd)
  | faddr (x : Opd) (off : Nat)
  | field (x : Opd) (off n : Nat) (agg : Bool)
  | iaddr (es : Nat) (x i : Opd)
  | aaddr (es len : Nat) (x i : Opd)
  | index (es len : Nat) (agg : Bool) (x i : Opd)
  | sindex (x i : Opd)
  | extract (x : Opd) (i : Nat)
  | len (x : Opd)
  | slen (x : Opd)
  | append (es bytes : Nat) (x y : Opd)
  | mnx (mx : Bool) (x y : Opd)
  | call (f : Nat) (hs : List Hand) (xs : List Opd)
  | callv (fs : List Nat) (hs : List Hand) (x : Opd) (xs : List Opd)
  deriving Inhabited

structure II where
  d : Option Nat
  g : Option (Nat × Bool)
  op : IOp

/-- What goes on past a loop's head, an exit, a return: slots, variables, and the roots that keep their names. -/
structure Keep where
  kt : List (Slot × Fat)
  kb : List Nat
  fx : List Key
  deriving Inhabited

/-- An operation of a statement whose operations may come in more than one order: k its place in the model's list; what may stand behind it though it is listed before it, and only reads; the variables that may come before it. -/
structure DI where
  i : II
  k : Nat
  rd : List II
  al : List Nat

inductive IC where
  | skip
  | reg (ops : List II)
  | dreg (ops : List DI)
  | seq (a b : IC)
  | cond (c : Opd) (a b : IC)
  | block (id : Nat) (c : IC)
  | loop (k : Keep) (c : IC)
  | exit (id : Nat) (k : Keep)
  | ret (k : Keep)
  deriving Inhabited

inductive Res where
  | t (i : Nat)
  | cell (i n : Nat) (agg : Bool)

structure IFn where
  np : Nat
  res : List (Res × Fat)
  /-- the parameters that are handed with the right to write, by their places: they are given back -/
  back : List (Nat × Hand)
  body : IC

inductive Ex where
  | normal
  | exit (id : Nat)
  | ret
  deriving DecidableEq

structure Out where
  v : V
  e : Env
  r : Roots
  b : List (Nat × Nat)
  p : List Loc

/-- A new root, where there is none of its key. -/
def newRoot (r : Roots) (k : Key) (n : Node) : Option Roots := if (getR r k).isNone then some ((k, n) :: r) else none

def newRoots (r : Roots) : Roots → Option Roots
  | [] => some r
  | (k, n) :: l => (newRoots r l).bind fun r' => newRoot r' k n

def newBox (b : List (Nat × Nat)) (d n : Nat) : Option (List (Nat × Nat)) := if (getB b d).isNone then some ((d, n) :: b) else none

def newBoxes (b : List (Nat × Nat)) : List (Nat × Nat) → Option (List (Nat × Nat))
  | [] => some b
  | (d, n) :: l => (newBoxes b l).bind fun b' => newBox b' d n

def keysOf (l : Roots) : List Loc := l.map fun x => ⟨x.1, []⟩
def boxesOf (l : List (Nat × Nat)) : List Loc := l.map fun x => boxLoc x.1

def intOf? : V → Option Int
  | .val (.int _ n) => some n
  | _ => none

/-- Operators on two plain values; none: not defined here (a division by 0, a negative shift). -/
def binV (op : BinOp) (x y : Value) : Option Value :=
  match op, x, y with
  | .shl, .int k a, .int _ b => if b < 0 then none else some (.int k (k.wrap (a * 2 ^ min b.toNat k.bits)))
  | .shr, .int k a, .int _ b => if b < 0 then none else some (.int k (a.fdiv (2 ^ min b.toNat k.bits)))
  | .add, .int k a, .int k' b => if k = k' then some (.int k (k.wrap (a + b))) else none
  | .sub, .int k a, .int k' b => if k = k' then some (.int k (k.wrap (a - b))) else none
  | .mul, .int k a, .int k' b => if k = k' then some (.int k (k.wrap (a * b))) else none
  | .quo, .int k a, .int k' b => if k = k' ∧ b ≠ 0 then some (.int k (k.wrap (a.tdiv b))) else none
  | .rem, .int k a, .int k' b => if k = k' ∧ b ≠ 0 then some (.int k (a.tmod b)) else none
  | .and, .int k a, .int k' b => if k = k' then some (.int k (k.wrap (BitVec.ofInt k.bits a &&& BitVec.ofInt k.bits b).toNat)) else none
  | .or, .int k a, .int k' b => if k = k' then some (.int k (k.wrap (BitVec.ofInt k.bits a ||| BitVec.ofInt k.bits b).toNat)) else none
  | .xor, .int k a, .int k' b => if k = k' then some (.int k (k.wrap (BitVec.ofInt k.bits a ^^^ BitVec.ofInt k.bits b).toNat)) else none
  | .andNot, .int k a, .int k' b => if k = k' then some (.int k (k.wrap (BitVec.ofInt k.bits a &&& ~~~BitVec.ofInt k.bits b).toNat)) else none
  | .eql, .int k a, .int k' b => if k = k' then some (.bool (decide (a = b))) else none
  | .neq, .int k a, .int k' b => if k = k' then some (.bool (!decide (a = b))) else none
  | .lss, .int k a, .int k' b => if k = k' then some (.bool (decide (a < b))) else none
  | .leq, .int k a, .int k' b => if k = k' then some (.bool (decide (a ≤ b))) else none
  | .gtr, .int k a, .int k' b => if k = k' then some (.bool (decide (b < a))) else none
  | .geq, .int k a, .int k' b => if k = k' then some (.bool (decide (b ≤ a))) else none
  | .add, .string a, .string b => if a.size + b.size ≤ 1099511627776 then some (.string (a ++ b)) else none
  | .eql, .string a, .string b => some (.bool (decide (a = b)))
  | .neq, .string a, .string b => some (.bool (!decide (a = b)))
  | _, _, _ => none

/-- Kinds of plain cells: 0 an int, 1 a bool, 2 a string. -/
def eq1 : Nat → V → V → Option Bool
  | 0, .val (.int k a), .val (.int k' b) => if k = k' then some (decide (a = b)) else none
  | 1, .val (.bool a), .val (.bool b) => some (a == b)
  | 2, .val (.string a), .val (.string b) => some (decide (a = b))
  | _, _, _ => none

def eqL : List Nat → List V → List V → Option Bool
  | [], [], [] => some true
  | k :: ks, x :: l, y :: m => (eq1 k x y).bind fun b => (eqL ks l m).map fun c => b && c
  | _, _, _ => none

/-- Equality of structs of plain cells. -/
def eqV (ks : List Nat) : V → V → Option Bool
  | .agg l, .agg m => eqL ks l m
  | _, _ => none

/-- A slice held against nil. -/
def eqN (r : Roots) : V → V → Option Bool
  | .nil, .nil => some true
  | .sl L _ n, .nil => if 0 < n ∧ (nodeAt r L).isSome = true then some false else none
  | .nil, .sl L _ n => if 0 < n ∧ (nodeAt r L).isSome = true then some false else none
  | _, _ => none

/-- Is it known what kind of value it is? -/
def V.known : V → Bool
  | .un => false
  | _ => true

def putVs (z : List V) (off : Nat) (l : List V) : Option (List V) :=
  if off + l.length ≤ z.length then some (z.take off ++ l ++ z.drop (off + l.length)) else none

def fillV (e : Env) (z : List V) : List (Nat × Nat × Opd) → Option (List V)
  | [] => some z
  | (off, n, x) :: ps => if (x.ev e).cells.length = n ∧ (x.ev e).known = true then (putVs z off (x.ev e).cells).bind fun z' => fillV e z' ps else none

def fillS (e : Env) (es : Nat) (z : List (List V)) : List (Nat × Opd) → Option (List (List V))
  | [] => some z
  | (i, x) :: ps => if (x.ev e).cells.length = es ∧ i < z.length ∧ (x.ev e).known = true then fillS e es (z.set i (x.ev e).cells) ps else none

def one (agg : Bool) (l : List V) : Option V := match agg, l with
  | true, l => some (.agg l)
  | false, [v] => some v
  | false, _ => none

def bounds (x : Opd → Option Int) (lo hi : Option Opd) (n : Nat) : Option (Nat × Nat) :=
  (match hi with | none => some (n : Int) | some h => x h).bind fun h =>
  (match lo with | none => some (0 : Int) | some l => x l).bind fun l =>
  if 0 ≤ l ∧ l ≤ h ∧ h ≤ n then some (l.toNat, h.toNat) else none

/-- The rows of an appended slice, and the roots behind. -/
def srcRows (r : Roots) : V → Option (List (List T) × Roots)
  | .nil => some ([], r)
  | .sl L off len => (nodeAt r L).bind fun n =>
    if off + len ≤ n.el.length then
      if plain (cut n.el off len) then some (cut n.el off len, r)
      else if n.ro = .own ∧ L.path = [] then some (cut n.el off len, delR r L.key) else none
    else none
  | _ => none

/-- The rows that an append goes on from: a slice of one's own; its root goes, or its place is dead. -/
def dstRows (r : Roots) (es : Nat) : V → Option (List (List T) × Roots)
  | .nil => some ([], r)
  | .sl L off len => (nodeAt r L).bind fun n => if n.ro = .own ∧ n.es = es then
      (takeC r (.sl L off len)).bind fun x => match x.1 with | .arr _ _ el => some (el, x.2) | _ => none else none
  | _ => none

/-- Is it surely known what the cell holds? -/
def T.live : T → Bool
  | .val _ | .nil | .arr .. => true
  | _ => false

def bytesOf : List (List T) → Option (List UInt8)
  | [] => some []
  | [.val (.int .u8 c)] :: l => (bytesOf l).map fun bs => UInt8.ofNat c.toNat :: bs
  | _ :: _ => none

abbrev Fun := Nat → List T → Option (List T × List T)

def hands (hs : List Hand) : List V → List (Hand × V)
  | [] => []
  | v :: l => match hs with | [] => (.lent [], v) :: hands [] l | h :: hs => (h, v) :: hands hs l

/-- What was handed is put back: the arrays' elements, the cells behind pointers (their trees under new roots (d, 100 + ..)). -/
def backs (d k : Nat) (r : Roots) : List (Hand × V) → List T → Option (Env × Roots × List Loc)
  | [], [] => some ([], r, [])
  | (.lent _, _) :: l, ts => backs d k r l ts
  | (.row _, v) :: l, t :: ts => (backRow r v t).bind fun x => (backs d k x.1 l ts).map fun y => (y.1, y.2.1, x.2 ++ y.2.2)
  | (.rows _, .agg vs) :: l, .agg us :: ts => (backRows r vs us).bind fun x => (backs d k x.1 l ts).map fun y => (y.1, y.2.1, x.2 ++ y.2.2)
  | (.cells fs, .bx b c) :: l, .ptr cs :: ts => if cs.length = fs.length then
      (newRoots r (impCs d k cs).2).bind fun r' => (backs d (k + fs.length) r' l ts).map fun y =>
        (slots b c (impCs d k cs).1 ++ y.1, y.2.1, keysOf (impCs d k cs).2 ++ y.2.2) else none
  | _, _ => none

def outCall (d : Nat) (r : Roots) (b : List (Nat × Nat)) (l : List (Hand × V)) (x : List T × List T) : Option Out :=
  (backs d 100 r l x.2).bind fun y => (newRoots y.2.1 (impRet d x.1).r).bind fun r' => (newBoxes b (impRet d x.1).b).map fun b' =>
    ⟨(impRet d x.1).v, (impRet d x.1).e ++ y.1, r', b', y.2.2 ++ keysOf (impRet d x.1).r ++ boxesOf (impRet d x.1).b⟩

def doCall (F : Fun) (d : Nat) (e : Env) (r : Roots) (b : List (Nat × Nat)) (f : Nat) (l : List (Hand × V)) : Option Out :=
  if apart l && nodupB (ptrsOf l) then (handPtrs e r b l).bind fun x => (handRest e x.2 b l x.1).bind fun as => (F f as).bind fun y => outCall d x.2 b l y else none

def onFn (fs : List Nat) (k : Nat → List V → Option Out) : V → Option Out
  | .fn f caps => if fs.contains f then k f caps else none
  | _ => none

def act (F : Fun) (d : Nat) (e : Env) (r : Roots) (b : List (Nat × Nat)) : IOp → Option Out
  | .mv x => some ⟨x.ev e, [], r, b, []⟩
  | .pick c x y => match c.ev e with
    | .val (.bool t) => some ⟨if t then x.ev e else y.ev e, [], r, b, []⟩
    | _ => none
  | .alloc z => (newBox b d z.length).map fun b' => ⟨.bx d 0, slots d 0 z, r, b', [boxLoc d]⟩
  | .box n x => if (x.ev e).cells.length = n ∧ (x.ev e).known = true then (newBox b d n).map fun b' => ⟨.bx d 0, slots d 0 (poisL [boxLoc d] (x.ev e).cells), r, b', [boxLoc d]⟩ else none
  | .build z ps => (fillV e z ps).map fun l => ⟨.agg l, [], r, b, []⟩
  | .bslice fs z ps => (fillS e fs.length z ps).bind fun rows => (takeRows r fs rows).bind fun y =>
      (newRoot y.2 (d, 0) ⟨.own, fs.length, y.1⟩).map fun r' => ⟨.sl ⟨(d, 0), []⟩ 0 rows.length, [], r', b, [⟨(d, 0), []⟩]⟩
  | .load n agg a => match a.ev e with
    | .pt L i c => (nodeAt r L).bind fun m => (m.el[i]?).bind fun row => if c + n ≤ row.length then (one agg (cellsV L i c ((row.drop c).take n))).map fun v => ⟨v, [], r, b, []⟩ else none
    | .bx k c => (getB b k).bind fun m => if c + n ≤ m then (one agg (boxCells e k c n)).map fun v => ⟨v, [], r, b, []⟩ else none
    | _ => none
  | .store fs a x => if (x.ev e).cells.length = fs.length ∧ (x.ev e).cells.all V.sure = true then
      match a.ev e with
      | .pt L i c => (takeCs r fs (x.ev e).cells).bind fun y => (nodeAt y.2 L).bind fun m => if m.ro = .own then
          (modAt y.2 L (putCells i c y.1)).map fun r' => ⟨.un, [], r', b, poisOf L i c y.1⟩ else none
      | .bx k c => (getB b k).bind fun m => if c + fs.length ≤ m then some ⟨.un, slots k c (x.ev e).cells, r, b, []⟩ else none
      | _ => none
    else none
  | .nilchk x => match x.ev e with
    | .pt L i c => some ⟨.pt L i c, [], r, b, []⟩
    | .bx k c => some ⟨.bx k c, [], r, b, []⟩
    | _ => none
  | .bin op x y => match x.ev e, y.ev e with
    | .val u, .val w => (binV op u w).map fun v => ⟨.val v, [], r, b, []⟩
    | _, _ => none
  | .beq neg x y => match x.ev e, y.ev e with
    | .val (.bool u), .val (.bool w) => some ⟨.val (.bool (if neg then !(u == w) else u == w)), [], r, b, []⟩
    | _, _ => none
  | .eqv neg ks x y => (eqV ks (x.ev e) (y.ev e)).map fun t => ⟨.val (.bool (if neg then !t else t)), [], r, b, []⟩
  | .eqn neg x y => (eqN r (x.ev e) (y.ev e)).map fun t => ⟨.val (.bool (if neg then !t else t)), [], r, b, []⟩
  | .un op x => match op, x.ev e with
    | .not, .val (.bool t) => some ⟨.val (.bool !t), [], r, b, []⟩
    | .neg, .val (.int k n) => some ⟨.val (.int k (k.wrap (0 - n))), [], r, b, []⟩
    | _, _ => none
  | .conv k x => match x.ev e with
    | .val (.int _ n) => some ⟨.val (.int k (k.wrap n)), [], r, b, []⟩
    | _ => none
  | .s2b x => match x.ev e with
    | .val (.string s) => (newRoot r (d, 0) ⟨.own, 1, s.data.toList.map fun c => [.val (.int .u8 c.toNat)]⟩).map fun r' => ⟨.sl ⟨(d, 0), []⟩ 0 s.size, [], r', b, [⟨(d, 0), []⟩]⟩
    | _ => none
  | .b2s x => match x.ev e with
    | .nil => some ⟨.val (.string .empty), [], r, b, []⟩
    | .sl L off len => (nodeAt r L).bind fun n => if off + len ≤ n.el.length then
        (bytesOf (cut n.el off len)).map fun bs => ⟨.val (.string ⟨bs.toArray⟩), [], r, b, []⟩ else none
    | _ => none
  | .mkfn f caps => some ⟨.fn f (caps.map (·.ev e)), [], r, b, []⟩
  | .mkslice es bytes z len cap => match len.ev e, cap.ev e with
    | .val (.int .i64 n), .val (.int .i64 c) => if 0 ≤ n ∧ n ≤ c ∧ c * bytes ≤ 140737488355328 ∧ c ≤ 140737488355328 ∧ z.length = es then
        (newRoot r (d, 0) ⟨.own, es, List.replicate n.toNat z⟩).map fun r' => ⟨.sl ⟨(d, 0), []⟩ 0 n.toNat, [], r', b, [⟨(d, 0), []⟩]⟩ else none
    | _, _ => none
  | .slice es x lo hi => match x.ev e with
    | .sl L off len => (bounds (fun o => intOf? (o.ev e)) lo hi len).bind fun q => (nodeAt r L).bind fun n => if n.es = es then some ⟨.sl L (off + q.1) (q.2 - q.1), [], r, b, []⟩ else none
    | .nil => (bounds (fun o => intOf? (o.ev e)) lo hi 0).map fun _ => ⟨.nil, [], r, b, []⟩
    | _ => none
  | .sslice x lo hi => match x.ev e with
    | .val (.string s) => (bounds (fun o => intOf? (o.ev e)) lo hi s.size).map fun q => ⟨.val (.string (s.extract q.1 q.2)), [], r, b, []⟩
    | _ => none
  | .faddr x off => match x.ev e with
    | .pt L i c => some ⟨.pt L i (c + off), [], r, b, []⟩
    | .bx k c => some ⟨.bx k (c + off), [], r, b, []⟩
    | _ => none
  | .field x off n agg => match x.ev e with
    | .agg l => if off + n ≤ l.length then (one agg ((l.drop off).take n)).map fun v => ⟨v, [], r, b, []⟩ else none
    | _ => none
  | .iaddr es x i => match x.ev e, i.ev e with
    | .sl L off len, .val (.int _ k) => if 0 ≤ k ∧ k < len then (nodeAt r L).bind fun n => if n.es = es then some ⟨.pt L (off + k.toNat) 0, [], r, b, []⟩ else none else none
    | _, _ => none
  | .aaddr es len x i => match x.ev e, i.ev e with
    | .pt L j c, .val (.int _ k) => if 0 ≤ k ∧ k < len then some ⟨.pt L j (c + k.toNat * es), [], r, b, []⟩ else none
    | .bx j c, .val (.int _ k) => if 0 ≤ k ∧ k < len then some ⟨.bx j (c + k.toNat * es), [], r, b, []⟩ else none
    | _, _ => none
  | .index es len agg x i => match x.ev e, i.ev e with
    | .agg l, .val (.int _ k) => if 0 ≤ k ∧ k < len ∧ k.toNat * es + es ≤ l.length then (one agg ((l.drop (k.toNat * es)).take es)).map fun v => ⟨v, [], r, b, []⟩ else none
    | _, _ => none
  | .sindex x i => match x.ev e, i.ev e with
    | .val (.string s), .val (.int _ k) => if 0 ≤ k then (s.data.toList[k.toNat]?).map fun c => ⟨.val (.int .u8 c.toNat), [], r, b, []⟩ else none
    | _, _ => none
  | .extract x i => match x.ev e with
    | .tup l => (l[i]?).map fun v => ⟨v, [], r, b, []⟩
    | _ => none
  | .len x => match x.ev e with
    | .nil => some ⟨.val (.int .i64 0), [], r, b, []⟩
    | .sl _ _ n => some ⟨.val (.int .i64 n), [], r, b, []⟩
    | _ => none
  | .slen x => match x.ev e with
    | .val (.string s) => some ⟨.val (.int .i64 s.size), [], r, b, []⟩
    | _ => none
  | .append es bytes x y => (srcRows r (y.ev e)).bind fun s => (dstRows s.2 es (x.ev e)).bind fun t =>
      if (t.1.length + s.1.length) * bytes ≤ 140737488355328 ∧ t.1.length + s.1.length ≤ 140737488355328 ∧ (s.1.all fun row => row.length == es && row.all T.live) then
        (newRoot t.2 (d, 0) ⟨.own, es, t.1 ++ s.1⟩).map fun r' => ⟨.sl ⟨(d, 0), []⟩ 0 (t.1.length + s.1.length), [], r', b, [⟨(d, 0), []⟩]⟩
      else none
  | .mnx mx x y => match x.ev e, y.ev e with
    | .val (.int k u), .val (.int k' w) => if k = k' then some ⟨.val (.int k (if mx then max u w else min u w)), [], r, b, []⟩ else none
    | _, _ => none
  | .call f hs xs => doCall F d e r b f (hands hs (xs.map (·.ev e)))
  | .callv fs hs x xs => onFn fs (fun f caps => doCall F d e r b f (hands hs (xs.map (·.ev e) ++ caps))) (x.ev e)

mutual
def freeV (p : List Loc) : V → Bool
  | .sl L _ _ => !hit p L
  | .pt L _ _ => !hit p L
  | .bx d _ => !hit p (boxLoc d)
  | .agg l => freeL p l
  | .tup l => freeL p l
  | .fn _ l => freeL p l
  | _ => true
def freeL (p : List Loc) : List V → Bool
  | [] => true
  | v :: l => freeV p v && freeL p l
end

def freeE (p : List Loc) : Env → Bool
  | [] => true
  | .s _ v :: e => freeV p v && freeE p e
  | .b _ :: e => freeE p e

def bar (p : List Loc) (e : Env) : Env := match p with | [] => e | x :: p => .b (x :: p) :: e

def setD (d : Option Nat) (v : V) (e : Env) : Env := match d with | some t => .s (t, 0) v :: e | none => e

/-- Where an operation has no place to write, its roots are named by a number that no temporary has. -/
def dOf (d : Option Nat) : Nat := d.getD 1000000

def wantV (w : Bool) : V → Option Bool
  | .val (.bool b) => some (b == w)
  | .tup _ => some false
  | _ => none

def want (e : Env) : Option (Nat × Bool) → Option Bool
  | none => some true
  | some (t, w) => wantV w (lk e (t, 0))

def ins (F : Fun) (x : II) (s : St) : Option St :=
  (want s.e x.g).bind fun w => if w then
      (act F (dOf x.d) s.e s.r s.b x.op).bind fun o => some ⟨setD x.d o.v (o.e ++ bar o.p s.e), o.r, o.b⟩
    else some ⟨setD x.d (.tup []) s.e, s.r, s.b⟩

def inss (F : Fun) : List II → St → Option St
  | [], s => some s
  | x :: l, s => (ins F x s).bind (inss F l)

def freeA (p : List Loc) : List Nat → Bool
  | [] => true
  | d :: l => !hit p (boxLoc d) && freeA p l

open Classical in
noncomputable def same1 (v w : V) (s : Option St) : Option St := if v = w then s else none

/-- Would these read the same now? -/
noncomputable def again (F : Fun) : List II → St → Option St
  | [], s => some s
  | y :: l, s => (want s.e y.g).bind fun w => if w then (act F (dOf y.d) s.e s.r s.b y.op).bind fun o => same1 o.v (lk s.e (dOf y.d, 0)) (again F l s) else again F l s

noncomputable def insD (F : Fun) (x : DI) (s : St) : Option St :=
  (want s.e x.i.g).bind fun w => if w then
      (act F (dOf x.i.d) s.e s.r s.b x.i.op).bind fun o => if freeE o.p s.e && freeA o.p x.al then again F x.rd ⟨setD x.i.d o.v (o.e ++ s.e), o.r, o.b⟩ else none
    else some ⟨setD x.i.d (.tup []) s.e, s.r, s.b⟩

noncomputable def inssD (F : Fun) : List DI → St → Option St
  | [], s => some s
  | x :: l, s => (insD F x s).bind (inssD F l)

/-- Old keys and new ones. -/
abbrev Ren := List (Key × Key)
def Ren.get : Ren → Key → Option Key
  | [], _ => none
  | (k, k') :: m, x => if k = x then some k' else Ren.get m x

/-- The name of the root that the j-th cell of the slot (t, c) takes. -/
def nameK (t c j : Nat) : Key := match c with
  | 0 => (t, 1000 + 2 * j)
  | c + 1 => (t, 1001 + 2 * c)

/-- One value carried over a loop's head: its root takes a name after its slot; a nil slice is an empty one. -/
def carry1 (r : Roots) (b : List (Nat × Nat)) (k' : Key) (f : Option Nat) (m : Ren) (q : Roots) : V → V × Ren × Roots
  | .val v => (.val v, m, q)
  | .nil => match f with
    | some es => (.sl ⟨k', []⟩ 0 0, m, (k', ⟨.own, es, []⟩) :: q)
    | none => (.nil, m, q)
  | .sl L off len => match m.get L.key with
    | some k => (.sl ⟨k, L.path⟩ off len, m, q)
    | none => match getR r L.key with
      | some n => (.sl ⟨k', L.path⟩ off len, (L.key, k') :: m, (k', n) :: q)
      | none => (.un, m, q)
  | .pt L i x => match m.get L.key with
    | some k => (.pt ⟨k, L.path⟩ i x, m, q)
    | none => match getR r L.key with
      | some n => (.pt ⟨k', L.path⟩ i x, (L.key, k') :: m, (k', n) :: q)
      | none => (.un, m, q)
  | .bx d x => if (getB b d).isSome then (.bx d x, m, q) else (.un, m, q)
  | _ => (.un, m, q)

def carryL (r : Roots) (b : List (Nat × Nat)) (t : Nat) : Nat → Fat → Ren → Roots → List V → List V × Ren × Roots
  | _, _, m, q, [] => ([], m, q)
  | j, fs, m, q, v :: l =>
    let x := carry1 r b (nameK t 0 j) fs.hd m q v
    let y := carryL r b t (j + 1) fs.tl x.2.1 x.2.2 l
    (x.1 :: y.1, y.2)

def carryV (r : Roots) (b : List (Nat × Nat)) (t c : Nat) (fs : Fat) (m : Ren) (q : Roots) : V → V × Ren × Roots
  | .agg l => if c = 0 then let y := carryL r b t 0 fs m q l; (.agg y.1, y.2) else (.un, m, q)
  | .fn f l => if c = 0 then let y := carryL r b t 0 [] m q l; (.fn f y.1, y.2) else (.un, m, q)
  | v => carry1 r b (nameK t c 0) fs.hd m q v

def carryE (e : Env) (r : Roots) (b : List (Nat × Nat)) : List (Slot × Fat) → Ren → Roots → Env × Roots
  | [], _, q => ([], q)
  | (t, fs) :: l, m, q =>
    let x := carryV r b t.1 t.2 fs m q (lk e t)
    let y := carryE e r b l x.2.1 x.2.2
    (.s t x.1 :: y.1, y.2)

def keepB (b : List (Nat × Nat)) : List Nat → List (Nat × Nat)
  | [] => []
  | d :: l => match getB b d with | some n => (d, n) :: keepB b l | none => keepB b l

def fixM : List Key → Ren
  | [] => []
  | k :: l => (k, k) :: fixM l

def fixR (r : Roots) : List Key → Roots
  | [] => []
  | k :: l => match getR r k with | some n => (k, n) :: fixR r l | none => fixR r l

/-- Only what is listed goes on. -/
def keep (k : Keep) (s : St) : St :=
  let y := carryE s.e s.r (keepB s.b k.kb) k.kt (fixM k.fx) (fixR s.r k.fx)
  ⟨y.1, y.2, keepB s.b k.kb⟩

/-- A result's tree: of one's own, or nobody's; nothing lent. -/
def expC (r : Roots) (f : Option Nat) (v : V) : Option (T × Roots) := (takeC r v).bind fun x => if clean x.1 then some (x.1.fat .own f, x.2) else none

def expCs (r : Roots) : Fat → List V → Option (List T × Roots)
  | _, [] => some ([], r)
  | fs, v :: l => (expC r fs.hd v).bind fun x => (expCs x.2 fs.tl l).map fun y => (x.1 :: y.1, y.2)

/-- one: the only result; nb: variables that are given back. -/
def expA (one : Bool) (nb : List Nat) (s : St) (r : Roots) (fs : Fat) : V → Option (T × Roots)
  | .agg l => (expCs r fs l).map fun x => (.agg x.1, x.2)
  | .bx d c => if c = 0 ∧ one = true ∧ nb.contains d = false then (getB s.b d).bind fun n => (expCs r fs (boxCells s.e d 0 n)).map fun x => (.ptr x.1, x.2) else none
  | v => expC r fs.hd v

def resV (s : St) (r : Roots) : Res → Option V
  | .t i => some (lk s.e (i, 0))
  | .cell i n agg => match lk s.e (i, 0) with
    | .pt L j c => (nodeAt r L).bind fun m => (m.el[j]?).bind fun row => if c + n ≤ row.length then one agg (cellsV L j c ((row.drop c).take n)) else none
    | .bx k c => (getB s.b k).bind fun m => if c + n ≤ m then one agg (boxCells s.e k c n) else none
    | _ => none

def expRs (one : Bool) (nb : List Nat) (s : St) (r : Roots) : List (Res × Fat) → Option (List T × Roots)
  | [] => some ([], r)
  | (x, fs) :: l => (resV s r x).bind fun v => (expA one nb s r fs v).bind fun y => (expRs one nb s y.2 l).map fun z => (y.1 :: z.1, z.2)

def cellsOf : List (Nat × Hand) → List Nat
  | [] => []
  | (t, .cells _) :: l => t :: cellsOf l
  | _ :: l => cellsOf l

/-- The array of a parameter, as it now is, under the root that it came under. -/
def giveRow (r : Roots) (t k : Nat) (v : V) : T → Option (T × Roots)
  | .arr _ _ _ => match v with
    | .sl L off len => if L.key = (t, k) ∧ L.path = [] ∧ off = 0 then (getR r (t, k)).bind fun n => if n.ro = .own ∧ n.el.length = len then expC r none v else none else none
    | _ => none
  | x => some (x, r)

def giveRows (r : Roots) (t : Nat) : Nat → List V → List T → Option (List T × Roots)
  | _, [], [] => some ([], r)
  | k, v :: l, x :: m => (giveRow r t k v x).bind fun y => (giveRows y.2 t (k + 1) l m).map fun z => (y.1 :: z.1, z.2)
  | _, _, _ => none

/-- What of the arguments is given back. -/
def give (s : St) (as : List T) (r : Roots) : List (Nat × Hand) → Option (List T)
  | [] => some []
  | (t, .row _) :: l => (as[t]?).bind fun a => (giveRow r t 0 (lk s.e (t, 0)) a).bind fun x => (give s as x.2 l).map fun ts => x.1 :: ts
  | (t, .rows _) :: l => match as[t]?, lk s.e (t, 0) with
    | some (.agg cs), .agg vs => (giveRows r t 0 vs cs).bind fun x => (give s as x.2 l).map fun ts => .agg x.1 :: ts
    | _, _ => none
  | (t, .cells fs) :: l => match as[t]?, lk s.e (t, 0), getB s.b t with
    | some (.ptr cs), .bx k 0, some m => if k = t ∧ m = fs.length ∧ m = cs.length then (expCs r fs (boxCells s.e t 0 m)).bind fun x => (give s as x.2 l).map fun ts => .ptr x.1 :: ts else none
    | _, _, _ => none
  | (_, .lent _) :: _ => none

def leave (res : List (Res × Fat)) (back : List (Nat × Hand)) (as : List T) (s : St) : Option (List T × List T) :=
  (expRs (res.length == 1) (cellsOf back) s s.r res).bind fun x => (give s as x.2 back).map fun y => (x.1, y)

/-- Behind a normal end it goes on. -/
def thenN (k : St → Option (Ex × St)) : Ex × St → Option (Ex × St)
  | (.normal, s) => k s
  | (.exit id, s) => some (.exit id, s)
  | (.ret, s) => some (.ret, s)

def outB (id : Nat) : Ex × St → Option (Ex × St)
  | (.exit j, s) => if j = id then some (.normal, s) else some (.exit j, s)
  | (.normal, s) => some (.normal, s)
  | (.ret, s) => some (.ret, s)

def fin (res : List (Res × Fat)) (back : List (Nat × Hand)) (as : List T) : Ex × St → Option (List T × List T)
  | (.exit _, _) => none
  | (.normal, s) => leave res back as s
  | (.ret, s) => leave res back as s

def onBool {α : Type} (a b : Option α) : V → Option α
  | .val (.bool t) => if t = true then a else b
  | _ => none

/-- The machine with k steps of depth. -/
noncomputable def run (X : Fun) (I : Nat → Option IFn) : Nat → IC → St → Option (Ex × St)
  | 0, _, _ => none
  | k + 1, c, s =>
    match c with
    | .skip => some (.normal, s)
    | .reg ops => (inss (fun f as => match X f as with
        | some x => some x
        | none => (I f).bind fun fn => if as.length = fn.np then (run X I k fn.body (impArgs 0 as)).bind (fin fn.res fn.back as) else none) ops s).map fun s' => (.normal, s')
    | .dreg ops => (inssD (fun f as => match X f as with
        | some x => some x
        | none => (I f).bind fun fn => if as.length = fn.np then (run X I k fn.body (impArgs 0 as)).bind (fin fn.res fn.back as) else none) ops s).map fun s' => (.normal, s')
    | .seq a b => (run X I k a s).bind (thenN fun s' => run X I k b s')
    | .cond c a b => onBool (run X I k a s) (run X I k b s) (c.ev s.e)
    | .block id a => (run X I k a s).bind (outB id)
    | .loop q a => (run X I k a (keep q s)).bind (thenN fun s' => run X I k (.loop q a) s')
    | .exit id q => some (.exit id, keep q s)
    | .ret q => some (.ret, keep q s)

/-- A table of functions. -/
def getI : List (Nat × IFn) → Nat → Option IFn
  | [], _ => none
  | (k, fn) :: l, f => if k = f then some fn else getI l f

noncomputable def callK (X : Fun) (I : Nat → Option IFn) (k : Nat) : Fun := fun f as => match X f as with
  | some x => some x
  | none => (I f).bind fun fn => if as.length = fn.np then (run X I k fn.body (impArgs 0 as)).bind (fin fn.res fn.back as) else none

end Go.Proofs.Ytekfjbejfondnaa.Tom
/-! The machine without a bound on its depth: 'ev' and 'F' are what the machine answers at some depth; their equations. -/
namespace Go.Proofs.Ytekfjbejfondnaa.Tom
open Go

open Classical in
noncomputable def lim {α : Type} (g : Nat → Option α) : Option α := if h : ∃ k, (g k).isSome then g h.choose else none

def Mono {α : Type} (g : Nat → Option α) : Prop := ∀ k x, g k = some x → g (k + 1) = some x

theorem Mono.le {α : Type} {g : Nat → Option α} (h : Mono g) {k m : Nat} (hkm : k ≤ m) {x : α} (hx : g k = some x) : g m = some x := by
  induction m with
  | zero => obtain rfl : k = 0 := by omega
            exact hx
  | succ m ih =>
    by_cases e : k = m + 1
    · exact e ▸ hx
    · exact h m x (ih (by omega))

theorem lim_iff {α : Type} {g : Nat → Option α} (h : Mono g) {x : α} : lim g = some x ↔ ∃ k, g k = some x := by
  unfold lim
  constructor
  · intro hx
    split at hx
    · exact ⟨_, hx⟩
    · cases hx
  · rintro ⟨k, hk⟩
    have hex : ∃ k, (g k).isSome := ⟨k, by simp [hk]⟩
    rw [dif_pos hex]
    obtain ⟨y, hy⟩ := Option.isSome_iff_exists.1 hex.choose_spec
    have h1 := h.le (Nat.le_max_left k hex.choose) hk
    have h2 := h.le (Nat.le_max_right k hex.choose) hy
    rw [hy, ← h2, h1]

def LeF (F G : Fun) : Prop := ∀ f a x, F f a = some x → G f a = some x

theorem doCall_mono {F G : Fun} (h : LeF F G) {d : Nat} {e : Env} {r : Roots} {b : List (Nat × Nat)} {f : Nat} {l : List (Hand × V)} {o : Out}
    (ho : doCall F d e r b f l = some o) : doCall G d e r b f l = some o := by
  unfold doCall at ho ⊢
  split at ho
  · rename_i ha
    rw [if_pos ha]
    obtain ⟨x, hx, ho⟩ := Option.bind_eq_some_iff.1 ho
    obtain ⟨as, has, ho⟩ := Option.bind_eq_some_iff.1 ho
    obtain ⟨y, hy, ho⟩ := Option.bind_eq_some_iff.1 ho
    simp only [hx, has, Option.bind_some, h _ _ _ hy, ho]
  · cases ho

theorem act_mono {F G : Fun} (h : LeF F G) {d : Nat} {e : Env} {r : Roots} {b : List (Nat × Nat)} {op : IOp} {o : Out}
    (ho : act F d e r b op = some o) : act G d e r b op = some o := by
  cases op <;> try exact ho
  case call f hs xs => exact doCall_mono h ho
  case callv fs hs x xs =>
    change onFn _ _ _ = _ at ho
    change onFn _ _ _ = _
    cases hx : x.ev e <;> rw [hx] at ho <;> try cases ho
    case fn f caps =>
      simp only [onFn] at ho ⊢
      split at ho
      · rename_i hc
        rw [if_pos hc]
        exact doCall_mono h ho
      · cases ho

theorem ins_mono {F G : Fun} (h : LeF F G) {x : II} {s s' : St} (hs : ins F x s = some s') : ins G x s = some s' := by
  unfold ins at hs ⊢
  obtain ⟨w, hw, hs⟩ := Option.bind_eq_some_iff.1 hs
  rw [hw, Option.bind_some]
  cases w with
  | false => exact hs
  | true =>
    simp only [if_true] at hs ⊢
    obtain ⟨o, ho, hs⟩ := Option.bind_eq_some_iff.1 hs
    rw [act_mono h ho, Option.bind_some]
    exact hs

theorem inss_mono {F G : Fun} (h : LeF F G) : ∀ {l : List II} {s s' : St}, inss F l s = some s' → inss G l s = some s'
  | [], _, _, hs => hs
  | x :: l, s, s', hs => by
    unfold inss at hs ⊢
    obtain ⟨s1, h1, hs⟩ := Option.bind_eq_some_iff.1 hs
    rw [ins_mono h h1, Option.bind_some]
    exact inss_mono h hs

theorem same1_some {v w : V} {s : Option St} {s' : St} (h : same1 v w s = some s') : v = w ∧ s = some s' := by
  unfold same1 at h
  split at h
  · rename_i e; exact ⟨e, h⟩
  · cases h

theorem again_mono {F G : Fun} (h : LeF F G) : ∀ {l : List II} {s s' : St}, again F l s = some s' → again G l s = some s'
  | [], _, _, hs => hs
  | y :: l, s, s', hs => by
    unfold again at hs ⊢
    obtain ⟨w, hw, hs⟩ := Option.bind_eq_some_iff.1 hs
    rw [hw, Option.bind_some]
    cases w with
    | false => exact again_mono h hs
    | true =>
      simp only [if_true] at hs ⊢
      obtain ⟨o, ho, hs⟩ := Option.bind_eq_some_iff.1 hs
      rw [act_mono h ho, Option.bind_some]
      obtain ⟨e, hs⟩ := same1_some hs
      unfold same1
      rw [if_pos e]
      exact again_mono h hs

theorem insD_mono {F G : Fun} (h : LeF F G) {x : DI} {s s' : St} (hs : insD F x s = some s') : insD G x s = some s' := by
  unfold insD at hs ⊢
  obtain ⟨w, hw, hs⟩ := Option.bind_eq_some_iff.1 hs
  rw [hw, Option.bind_some]
  cases w with
  | false => exact hs
  | true =>
    simp only [if_true] at hs ⊢
    obtain ⟨o, ho, hs⟩ := Option.bind_eq_some_iff.1 hs
    rw [act_mono h ho, Option.bind_some]
    split at hs
    · rename_i hc; rw [if_pos hc]; exact again_mono h hs
    · cases hs

theorem inssD_mono {F G : Fun} (h : LeF F G) : ∀ {l : List DI} {s s' : St}, inssD F l s = some s' → inssD G l s = some s'
  | [], _, _, hs => hs
  | x :: l, s, s', hs => by
    unfold inssD at hs ⊢
    obtain ⟨s1, h1, hs⟩ := Option.bind_eq_some_iff.1 hs
    rw [insD_mono h h1, Option.bind_some]
    exact inssD_mono h hs

section
variable (X : Fun) (I : Nat → Option IFn)

theorem run_reg (k : Nat) (ops : List II) (s : St) :
    run X I (k + 1) (.reg ops) s = (inss (callK X I k) ops s).map fun s' => (.normal, s') := by
  simp only [run]; rfl

theorem run_dreg (k : Nat) (ops : List DI) (s : St) :
    run X I (k + 1) (.dreg ops) s = (inssD (callK X I k) ops s).map fun s' => (.normal, s') := by
  simp only [run]; rfl

theorem callK_mono_of {k : Nat} (h : ∀ c s r, run X I k c s = some r → run X I (k + 1) c s = some r) : LeF (callK X I k) (callK X I (k + 1)) := by
  intro f a x hx
  unfold callK at hx ⊢
  split at hx
  · exact hx
  · obtain ⟨fn, hf, hx⟩ := Option.bind_eq_some_iff.1 hx
    rw [hf, Option.bind_some]
    split at hx
    · rename_i hn
      rw [if_pos hn]
      obtain ⟨y, hy, hx⟩ := Option.bind_eq_some_iff.1 hx
      rw [h _ _ _ hy, Option.bind_some]
      exact hx
    · cases hx

theorem run_mono (k : Nat) : ∀ c s r, run X I k c s = some r → run X I (k + 1) c s = some r := by
  induction k with
  | zero => intro c s r h; simp [run] at h
  | succ k ih =>
    intro c s r h
    cases c with
    | skip => simpa [run] using h
    | exit id q => simpa [run] using h
    | ret q => simpa [run] using h
    | reg ops =>
      rw [run_reg] at h ⊢
      obtain ⟨s', hs, rfl⟩ := Option.map_eq_some_iff.1 h
      rw [inss_mono (callK_mono_of X I ih) hs]
      rfl
    | dreg ops =>
      rw [run_dreg] at h ⊢
      obtain ⟨s', hs, rfl⟩ := Option.map_eq_some_iff.1 h
      rw [inssD_mono (callK_mono_of X I ih) hs]
      rfl
    | seq a b =>
      rw [run] at h ⊢
      obtain ⟨⟨e, s1⟩, hy, h⟩ := Option.bind_eq_some_iff.1 h
      rw [ih _ _ _ hy, Option.bind_some]
      cases e <;> first | exact h | exact ih _ _ _ h
    | cond c a b =>
      rw [run] at h ⊢
      unfold onBool at h ⊢
      split at h
      · split at h
        · rename_i h1; simp only [h1, if_true]; exact ih _ _ _ h
        · rename_i h1; simp only [h1]; exact ih _ _ _ h
      · cases h
    | block id a =>
      rw [run] at h ⊢
      obtain ⟨y, hy, h⟩ := Option.bind_eq_some_iff.1 h
      rw [ih _ _ _ hy, Option.bind_some]
      exact h
    | loop q a =>
      rw [run] at h ⊢
      obtain ⟨⟨e, s1⟩, hy, h⟩ := Option.bind_eq_some_iff.1 h
      rw [ih _ _ _ hy, Option.bind_some]
      cases e <;> first | exact h | exact ih _ _ _ h

theorem callK_mono (k : Nat) : LeF (callK X I k) (callK X I (k + 1)) := callK_mono_of X I (run_mono X I k)

/-- What a function answers. -/
noncomputable def F : Fun := fun f a => lim fun k => callK X I k f a
/-- What a piece of code comes to. -/
noncomputable def ev (c : IC) (s : St) : Option (Ex × St) := lim fun k => run X I k c s

theorem monoR (c : IC) (s : St) : Mono fun k => run X I k c s := fun k x h => run_mono X I k c s x h
theorem monoC (f : Nat) (a : List T) : Mono fun k => callK X I k f a := fun k x h => callK_mono X I k f a x h
theorem ev_iff {c : IC} {s : St} {x : Ex × St} : ev X I c s = some x ↔ ∃ k, run X I k c s = some x := lim_iff (monoR X I c s)
theorem F_iff {f : Nat} {a : List T} {x : List T × List T} : F X I f a = some x ↔ ∃ k, callK X I k f a = some x := lim_iff (monoC X I f a)
theorem callK_le (k : Nat) : LeF (callK X I k) (F X I) := fun _ _ _ h => (F_iff X I).2 ⟨k, h⟩
theorem callK_le' {k m : Nat} (h : k ≤ m) : LeF (callK X I k) (callK X I m) := fun f a _ hx => (monoC X I f a).le h hx

theorem doCall_lim {d : Nat} {e : Env} {r : Roots} {b : List (Nat × Nat)} {f : Nat} {l : List (Hand × V)} {o : Out}
    (ho : doCall (F X I) d e r b f l = some o) : ∃ k, doCall (callK X I k) d e r b f l = some o := by
  unfold doCall at ho
  split at ho
  · rename_i ha
    obtain ⟨x, hx, ho⟩ := Option.bind_eq_some_iff.1 ho
    obtain ⟨as, has, ho⟩ := Option.bind_eq_some_iff.1 ho
    obtain ⟨y, hy, ho⟩ := Option.bind_eq_some_iff.1 ho
    obtain ⟨k, hk⟩ := (F_iff X I).1 hy
    refine ⟨k, ?_⟩
    unfold doCall
    rw [if_pos ha]
    simp only [hx, has, Option.bind_some, hk, ho]
  · cases ho

theorem act_lim {d : Nat} {e : Env} {r : Roots} {b : List (Nat × Nat)} {op : IOp} {o : Out}
    (ho : act (F X I) d e r b op = some o) : ∃ k, act (callK X I k) d e r b op = some o := by
  cases op <;> try exact ⟨0, ho⟩
  case call f hs xs => exact doCall_lim X I ho
  case callv fs hs x xs =>
    change onFn _ _ _ = _ at ho
    have key : ∀ v, x.ev e = v → onFn fs (fun f caps => doCall (F X I) d e r b f (hands hs (xs.map (·.ev e) ++ caps))) v = some o → ∃ k, onFn fs (fun f caps => doCall (callK X I k) d e r b f (hands hs (xs.map (·.ev e) ++ caps))) v = some o := by
      intro v _ h
      cases v <;> try cases h
      case fn f caps =>
        simp only [onFn] at h ⊢
        split at h
        · rename_i hc
          obtain ⟨k, hk⟩ := doCall_lim X I h
          exact ⟨k, by rw [if_pos hc]; exact hk⟩
        · cases h
    exact key _ rfl ho

theorem ins_lim {x : II} {s s' : St} (hs : ins (F X I) x s = some s') : ∃ k, ins (callK X I k) x s = some s' := by
  unfold ins at hs ⊢
  obtain ⟨w, hw, hs⟩ := Option.bind_eq_some_iff.1 hs
  simp only [hw, Option.bind_some]
  cases w with
  | false => exact ⟨0, hs⟩
  | true =>
    simp only [if_true] at hs ⊢
    obtain ⟨o, ho, hs⟩ := Option.bind_eq_some_iff.1 hs
    obtain ⟨k, hk⟩ := act_lim X I ho
    exact ⟨k, by rw [hk, Option.bind_some]; exact hs⟩

theorem inss_lim : ∀ {l : List II} {s s' : St}, inss (F X I) l s = some s' → ∃ k, inss (callK X I k) l s = some s'
  | [], _, _, hs => ⟨0, hs⟩
  | x :: l, s, s', hs => by
    unfold inss at hs
    obtain ⟨s1, h1, hs⟩ := Option.bind_eq_some_iff.1 hs
    obtain ⟨k1, hk1⟩ := ins_lim X I h1
    obtain ⟨k2, hk2⟩ := inss_lim hs
    refine ⟨max k1 k2, ?_⟩
    unfold inss
    rw [ins_mono (callK_le' X I (Nat.le_max_left k1 k2)) hk1, Option.bind_some]
    exact inss_mono (callK_le' X I (Nat.le_max_right k1 k2)) hk2

theorem again_lim : ∀ {l : List II} {s s' : St}, again (F X I) l s = some s' → ∃ k, again (callK X I k) l s = some s'
  | [], _, _, hs => ⟨0, hs⟩
  | y :: l, s, s', hs => by
    unfold again at hs
    obtain ⟨w, hw, hs⟩ := Option.bind_eq_some_iff.1 hs
    cases w with
    | false =>
      obtain ⟨k, hk⟩ := again_lim hs
      exact ⟨k, by unfold again; rw [hw, Option.bind_some]; exact hk⟩
    | true =>
      simp only [if_true] at hs
      obtain ⟨o, ho, hs⟩ := Option.bind_eq_some_iff.1 hs
      obtain ⟨e, hs⟩ := same1_some hs
      obtain ⟨k1, hk1⟩ := act_lim X I ho
      obtain ⟨k2, hk2⟩ := again_lim hs
      refine ⟨max k1 k2, ?_⟩
      unfold again
      rw [hw, Option.bind_some, if_pos rfl, act_mono (callK_le' X I (Nat.le_max_left k1 k2)) hk1, Option.bind_some]
      unfold same1
      rw [if_pos e]
      exact again_mono (callK_le' X I (Nat.le_max_right k1 k2)) hk2

theorem insD_lim {x : DI} {s s' : St} (hs : insD (F X I) x s = some s') : ∃ k, insD (callK X I k) x s = some s' := by
  unfold insD at hs
  obtain ⟨w, hw, hs⟩ := Option.bind_eq_some_iff.1 hs
  cases w with
  | false => exact ⟨0, by unfold insD; rw [hw, Option.bind_some]; exact hs⟩
  | true =>
    simp only [if_true] at hs
    obtain ⟨o, ho, hs⟩ := Option.bind_eq_some_iff.1 hs
    split at hs
    · rename_i hc
      obtain ⟨k1, hk1⟩ := act_lim X I ho
      obtain ⟨k2, hk2⟩ := again_lim X I hs
      refine ⟨max k1 k2, ?_⟩
      unfold insD
      rw [hw, Option.bind_some, if_pos rfl, act_mono (callK_le' X I (Nat.le_max_left k1 k2)) hk1, Option.bind_some, if_pos hc]
      exact again_mono (callK_le' X I (Nat.le_max_right k1 k2)) hk2
    · cases hs

theorem inssD_lim : ∀ {l : List DI} {s s' : St}, inssD (F X I) l s = some s' → ∃ k, inssD (callK X I k) l s = some s'
  | [], _, _, hs => ⟨0, hs⟩
  | x :: l, s, s', hs => by
    unfold inssD at hs
    obtain ⟨s1, h1, hs⟩ := Option.bind_eq_some_iff.1 hs
    obtain ⟨k1, hk1⟩ := insD_lim X I h1
    obtain ⟨k2, hk2⟩ := inssD_lim hs
    refine ⟨max k1 k2, ?_⟩
    unfold inssD
    rw [insD_mono (callK_le' X I (Nat.le_max_left k1 k2)) hk1, Option.bind_some]
    exact inssD_mono (callK_le' X I (Nat.le_max_right k1 k2)) hk2

theorem inss_iff {l : List II} {s s' : St} : inss (F X I) l s = some s' ↔ ∃ k, inss (callK X I k) l s = some s' :=
  ⟨inss_lim X I, fun ⟨k, hk⟩ => inss_mono (callK_le X I k) hk⟩
theorem inssD_iff {l : List DI} {s s' : St} : inssD (F X I) l s = some s' ↔ ∃ k, inssD (callK X I k) l s = some s' :=
  ⟨inssD_lim X I, fun ⟨k, hk⟩ => inssD_mono (callK_le X I k) hk⟩

/-! The equations. -/
theorem opt_ext {α : Type} {a b : Option α} (h : ∀ x, a = some x ↔ b = some x) : a = b := Option.ext h

theorem ev_skip (s : St) : ev X I .skip s = some (.normal, s) := (ev_iff X I).2 ⟨1, rfl⟩
theorem ev_exit (id : Nat) (q : Keep) (s : St) : ev X I (.exit id q) s = some (.exit id, keep q s) := (ev_iff X I).2 ⟨1, rfl⟩
theorem ev_ret (q : Keep) (s : St) : ev X I (.ret q) s = some (.ret, keep q s) := (ev_iff X I).2 ⟨1, rfl⟩

theorem ev_reg (ops : List II) (s : St) : ev X I (.reg ops) s = (inss (F X I) ops s).map fun s' => (.normal, s') := by
  refine opt_ext fun x => ?_
  rw [ev_iff, Option.map_eq_some_iff]
  constructor
  · rintro ⟨k, hk⟩
    cases k with
    | zero => simp [run] at hk
    | succ k =>
      rw [run_reg] at hk
      obtain ⟨s', hs, rfl⟩ := Option.map_eq_some_iff.1 hk
      exact ⟨s', (inss_iff X I).2 ⟨k, hs⟩, rfl⟩
  · rintro ⟨s', hs, rfl⟩
    obtain ⟨k, hk⟩ := (inss_iff X I).1 hs
    exact ⟨k + 1, by rw [run_reg, hk]; rfl⟩

theorem ev_dreg (ops : List DI) (s : St) : ev X I (.dreg ops) s = (inssD (F X I) ops s).map fun s' => (.normal, s') := by
  refine opt_ext fun x => ?_
  rw [ev_iff, Option.map_eq_some_iff]
  constructor
  · rintro ⟨k, hk⟩
    cases k with
    | zero => simp [run] at hk
    | succ k =>
      rw [run_dreg] at hk
      obtain ⟨s', hs, rfl⟩ := Option.map_eq_some_iff.1 hk
      exact ⟨s', (inssD_iff X I).2 ⟨k, hs⟩, rfl⟩
  · rintro ⟨s', hs, rfl⟩
    obtain ⟨k, hk⟩ := (inssD_iff X I).1 hs
    exact ⟨k + 1, by rw [run_dreg, hk]; rfl⟩

theorem ev_seq (a b : IC) (s : St) : ev X I (.seq a b) s = (ev X I a s).bind (thenN fun s' => ev X I b s') := by
  refine opt_ext fun x => ?_
  rw [ev_iff, Option.bind_eq_some_iff]
  constructor
  · rintro ⟨k, hk⟩
    cases k with
    | zero => simp [run] at hk
    | succ k =>
      rw [run] at hk
      obtain ⟨⟨e, s1⟩, hy, h⟩ := Option.bind_eq_some_iff.1 hk
      refine ⟨(e, s1), (ev_iff X I).2 ⟨k, hy⟩, ?_⟩
      cases e <;> first | exact h | exact (ev_iff X I).2 ⟨k, h⟩
  · rintro ⟨⟨e, s1⟩, hy, h⟩
    obtain ⟨k, hk⟩ := (ev_iff X I).1 hy
    cases e with
    | normal =>
      obtain ⟨m, hm⟩ := (ev_iff X I).1 h
      refine ⟨max k m + 1, ?_⟩
      rw [run, (monoR X I a s).le (Nat.le_max_left k m) hk, Option.bind_some]
      exact (monoR X I b s1).le (Nat.le_max_right k m) hm
    | exit j => exact ⟨k + 1, by rw [run, hk, Option.bind_some]; exact h⟩
    | ret => exact ⟨k + 1, by rw [run, hk, Option.bind_some]; exact h⟩

theorem onBool_iff {α : Type} {a b : Option α} {v : V} {x : α} : onBool a b v = some x ↔ (v = .val (.bool true) ∧ a = some x) ∨ (v = .val (.bool false) ∧ b = some x) := by
  unfold onBool
  split
  · rename_i t
    cases t <;> simp
  · rename_i h
    constructor
    · intro h; cases h
    · rintro (⟨rfl, _⟩ | ⟨rfl, _⟩)
      · exact (h true rfl).elim
      · exact (h false rfl).elim

theorem ev_cond (c : Opd) (a b : IC) (s : St) : ev X I (.cond c a b) s = onBool (ev X I a s) (ev X I b s) (c.ev s.e) := by
  refine opt_ext fun x => ?_
  rw [ev_iff, onBool_iff]
  constructor
  · rintro ⟨k, hk⟩
    cases k with
    | zero => simp [run] at hk
    | succ k =>
      rw [run, onBool_iff] at hk
      exact hk.imp (fun h => ⟨h.1, (ev_iff X I).2 ⟨k, h.2⟩⟩) (fun h => ⟨h.1, (ev_iff X I).2 ⟨k, h.2⟩⟩)
  · rintro (⟨h, h2⟩ | ⟨h, h2⟩)
    · obtain ⟨k, hk⟩ := (ev_iff X I).1 h2
      exact ⟨k + 1, by rw [run, onBool_iff]; exact .inl ⟨h, hk⟩⟩
    · obtain ⟨k, hk⟩ := (ev_iff X I).1 h2
      exact ⟨k + 1, by rw [run, onBool_iff]; exact .inr ⟨h, hk⟩⟩

theorem ev_block (id : Nat) (a : IC) (s : St) : ev X I (.block id a) s = (ev X I a s).bind (outB id) := by
  refine opt_ext fun x => ?_
  rw [ev_iff, Option.bind_eq_some_iff]
  constructor
  · rintro ⟨k, hk⟩
    cases k with
    | zero => simp [run] at hk
    | succ k =>
      rw [run] at hk
      obtain ⟨y, hy, h⟩ := Option.bind_eq_some_iff.1 hk
      exact ⟨y, (ev_iff X I).2 ⟨k, hy⟩, h⟩
  · rintro ⟨y, hy, h⟩
    obtain ⟨k, hk⟩ := (ev_iff X I).1 hy
    exact ⟨k + 1, by rw [run, hk, Option.bind_some]; exact h⟩

theorem ev_loop (q : Keep) (a : IC) (s : St) :
    ev X I (.loop q a) s = (ev X I a (keep q s)).bind (thenN fun s' => ev X I (.loop q a) s') := by
  refine opt_ext fun x => ?_
  rw [ev_iff, Option.bind_eq_some_iff]
  constructor
  · rintro ⟨k, hk⟩
    cases k with
    | zero => simp [run] at hk
    | succ k =>
      rw [run] at hk
      obtain ⟨⟨e, s1⟩, hy, h⟩ := Option.bind_eq_some_iff.1 hk
      refine ⟨(e, s1), (ev_iff X I).2 ⟨k, hy⟩, ?_⟩
      cases e <;> first | exact h | exact (ev_iff X I).2 ⟨k, h⟩
  · rintro ⟨⟨e, s1⟩, hy, h⟩
    obtain ⟨k, hk⟩ := (ev_iff X I).1 hy
    cases e with
    | normal =>
      obtain ⟨m, hm⟩ := (ev_iff X I).1 h
      refine ⟨max k m + 1, ?_⟩
      rw [run, (monoR X I a _).le (Nat.le_max_left k m) hk, Option.bind_some]
      exact (monoR X I _ s1).le (Nat.le_max_right k m) hm
    | exit j => exact ⟨k + 1, by rw [run, hk, Option.bind_some]; exact h⟩
    | ret => exact ⟨k + 1, by rw [run, hk, Option.bind_some]; exact h⟩

/-- A function of the table, that is none of the given ones. -/
theorem F_def {f : Nat} {fn : IFn} (hX : ∀ a, X f a = none) (hI : I f = some fn) (a : List T) (hn : a.length = fn.np) :
    F X I f a = (ev X I fn.body (impArgs 0 a)).bind (fin fn.res fn.back a) := by
  refine opt_ext fun x => ?_
  rw [F_iff, Option.bind_eq_some_iff]
  constructor
  · rintro ⟨k, hk⟩
    unfold callK at hk
    simp only [hX, hI, Option.bind_some, hn, if_true] at hk
    obtain ⟨y, hy, h⟩ := Option.bind_eq_some_iff.1 hk
    exact ⟨y, (ev_iff X I).2 ⟨k, hy⟩, h⟩
  · rintro ⟨y, hy, h⟩
    obtain ⟨k, hk⟩ := (ev_iff X I).1 hy
    refine ⟨k, ?_⟩
    unfold callK
    simp only [hX, hI, Option.bind_some, hn, if_true, hk]
    exact h

theorem F_given {f : Nat} {a : List T} {x : List T × List T} (h : X f a = some x) : F X I f a = some x :=
  (F_iff X I).2 ⟨0, by unfold callK; simp only [h]⟩

end
end Go.Proofs.Ytekfjbejfondnaa.Tom
/-! What the machine is told of functions of Go's library: their answers on trees. -/
namespace Go.Proofs.Ytekfjbejfondnaa.Tom
open Go

/-- slices.Clone of plain elements (of es cells). -/
def xClone (es : Nat) : List T → Option (List T × List T)
  | [.nil] => some ([.arr .own es []], [])
  | [.arr _ n el] => if n = es ∧ plain el then some ([.arr .own es el], []) else none
  | _ => none

end Go.Proofs.Ytekfjbejfondnaa.Tom
