/- Rules by which 'simp' runs the machine on a text. The simplified code of the functions of this seat, printed by icode.py. -/
import Derived.Test.YtekfjbejfondnaaKa
/-! Rules by which 'simp' runs the machine on a text. -/
namespace Go.Proofs.Ytekfjbejfondnaa.Tom
open Go

attribute [simp] ev_skip ev_exit ev_ret ev_reg ev_dreg ev_seq ev_cond ev_block

/-! simp goes into what comes first, not into what is done with it. -/
@[congr] theorem bind_congr1 {α β : Type} {x y : Option α} (f : α → Option β) (h : x = y) : x.bind f = y.bind f := h ▸ rfl
@[congr] theorem map_congr1 {α β : Type} {x y : Option α} (f : α → β) (h : x = y) : Option.map f x = Option.map f y := h ▸ rfl

section
variable (X : Fun) (I : Nat → Option IFn)

@[simp] theorem thenN_normal (k : St → Option (Ex × St)) (s : St) : thenN k (.normal, s) = k s := rfl
@[simp] theorem thenN_exit (k : St → Option (Ex × St)) (i : Nat) (s : St) : thenN k (.exit i, s) = some (.exit i, s) := rfl
@[simp] theorem thenN_ret (k : St → Option (Ex × St)) (s : St) : thenN k (.ret, s) = some (.ret, s) := rfl
@[simp] theorem outB_normal (id : Nat) (s : St) : outB id (.normal, s) = some (.normal, s) := rfl
@[simp] theorem outB_exit (id j : Nat) (s : St) : outB id (.exit j, s) = if j = id then some (.normal, s) else some (.exit j, s) := rfl
@[simp] theorem outB_ret (id : Nat) (s : St) : outB id (.ret, s) = some (.ret, s) := rfl
@[simp] theorem fin_normal (rs : List (Res × Fat)) (bk : List (Nat × Hand)) (as : List T) (s : St) : fin rs bk as (.normal, s) = leave rs bk as s := rfl
@[simp] theorem fin_ret (rs : List (Res × Fat)) (bk : List (Nat × Hand)) (as : List T) (s : St) : fin rs bk as (.ret, s) = leave rs bk as s := rfl
@[simp] theorem onBool_val {α : Type} (a b : Option α) (t : Bool) : onBool a b (.val (.bool t)) = if t = true then a else b := rfl

@[simp] theorem inss_nil (F : Fun) (s : St) : inss F [] s = some s := rfl
@[simp] theorem inss_cons (F : Fun) (x : II) (l : List II) (s : St) : inss F (x :: l) s = (ins F x s).bind (inss F l) := rfl
@[simp] theorem inssD_nil (F : Fun) (s : St) : inssD F [] s = some s := rfl
@[simp] theorem inssD_cons (F : Fun) (x : DI) (l : List DI) (s : St) : inssD F (x :: l) s = (insD F x s).bind (inssD F l) := rfl

def fin1 (d : Option Nat) (s : St) (o : Out) : Option St := some ⟨setD d o.v (o.e ++ bar o.p s.e), o.r, o.b⟩
noncomputable def fin2 (F : Fun) (d : Option Nat) (rd : List II) (al : List Nat) (s : St) (o : Out) : Option St := if freeE o.p s.e && freeA o.p al then again F rd ⟨setD d o.v (o.e ++ s.e), o.r, o.b⟩ else none

@[simp] theorem ins_plain (F : Fun) (d : Option Nat) (op : IOp) (s : St) : ins F ⟨d, none, op⟩ s = (act F (dOf d) s.e s.r s.b op).bind (fin1 d s) := rfl
@[simp] theorem ins_drawn (F : Fun) (d : Option Nat) (op : IOp) (k : Nat) (rd : List II) (al : List Nat) (s : St) : insD F ⟨⟨d, none, op⟩, k, rd, al⟩ s = (act F (dOf d) s.e s.r s.b op).bind (fin2 F d rd al s) := rfl
def guarded (a b : Option St) (w : Bool) : V → Option St
  | .val (.bool t) => if (t == w) = true then a else b
  | .tup _ => b
  | _ => none
@[simp] theorem guarded_tup (a b : Option St) (w : Bool) (l : List V) : guarded a b w (.tup l) = b := rfl
@[simp] theorem guarded_val (a b : Option St) (w t : Bool) : guarded a b w (.val (.bool t)) = if (t == w) = true then a else b := rfl
theorem guarded_eq (a b : Option St) (w : Bool) (v : V) : ((wantV w v).bind fun q => if q = true then a else b) = guarded a b w v := by
  cases v with
  | val x => cases x <;> rfl
  | _ => rfl
@[simp] theorem ins_guard1 (F : Fun) (d : Option Nat) (t : Nat) (w : Bool) (op : IOp) (s : St) : ins F ⟨d, some (t, w), op⟩ s =
    guarded ((act F (dOf d) s.e s.r s.b op).bind (fin1 d s)) (some ⟨setD d (.tup []) s.e, s.r, s.b⟩) w (lk s.e (t, 0)) := guarded_eq _ _ _ _
@[simp] theorem ins_guard2 (F : Fun) (d : Option Nat) (t : Nat) (w : Bool) (op : IOp) (k : Nat) (rd : List II) (al : List Nat) (s : St) : insD F ⟨⟨d, some (t, w), op⟩, k, rd, al⟩ s =
    guarded ((act F (dOf d) s.e s.r s.b op).bind (fin2 F d rd al s)) (some ⟨setD d (.tup []) s.e, s.r, s.b⟩) w (lk s.e (t, 0)) := guarded_eq _ _ _ _
@[simp] theorem fin1_some (t : Nat) (s : St) (v : V) (r : Roots) (b : List (Nat × Nat)) : fin1 (some t) s ⟨v, [], r, b, []⟩ = some ⟨.s (t, 0) v :: s.e, r, b⟩ := rfl
@[simp] theorem fin1_someb (t : Nat) (s : St) (v : V) (e : Env) (r : Roots) (b : List (Nat × Nat)) (x : Loc) (p : List Loc) : fin1 (some t) s ⟨v, e, r, b, x :: p⟩ = some ⟨.s (t, 0) v :: (e ++ .b (x :: p) :: s.e), r, b⟩ := rfl
@[simp] theorem fin1_somee (t : Nat) (s : St) (v : V) (e : Env) (r : Roots) (b : List (Nat × Nat)) : fin1 (some t) s ⟨v, e, r, b, []⟩ = some ⟨.s (t, 0) v :: (e ++ s.e), r, b⟩ := rfl
@[simp] theorem fin1_none (s : St) (v : V) (e : Env) (r : Roots) (b : List (Nat × Nat)) : fin1 none s ⟨v, e, r, b, []⟩ = some ⟨e ++ s.e, r, b⟩ := rfl
@[simp] theorem fin1_noneb (s : St) (v : V) (e : Env) (r : Roots) (b : List (Nat × Nat)) (x : Loc) (p : List Loc) : fin1 none s ⟨v, e, r, b, x :: p⟩ = some ⟨e ++ .b (x :: p) :: s.e, r, b⟩ := rfl
@[simp] theorem fin2_some (F : Fun) (t : Nat) (rd : List II) (al : List Nat) (s : St) (v : V) (e : Env) (r : Roots) (b : List (Nat × Nat)) (p : List Loc) : fin2 F (some t) rd al s ⟨v, e, r, b, p⟩ = if (freeE p s.e && freeA p al) = true then again F rd ⟨.s (t, 0) v :: (e ++ s.e), r, b⟩ else none := rfl
@[simp] theorem fin2_none (F : Fun) (rd : List II) (al : List Nat) (s : St) (v : V) (e : Env) (r : Roots) (b : List (Nat × Nat)) (p : List Loc) : fin2 F none rd al s ⟨v, e, r, b, p⟩ = if (freeE p s.e && freeA p al) = true then again F rd ⟨e ++ s.e, r, b⟩ else none := rfl
@[simp] theorem again_nil (F : Fun) (s : St) : again F [] s = some s := rfl
noncomputable def same3 (w : V) (k : Option St) (o : Out) : Option St := same1 o.v w k
@[simp] theorem same3_mk (w : V) (k : Option St) (v : V) (e : Env) (r : Roots) (b : List (Nat × Nat)) (p : List Loc) : same3 w k ⟨v, e, r, b, p⟩ = same1 v w k := rfl
@[simp] theorem same1_self (v : V) (k : Option St) : same1 v v k = k := if_pos rfl
@[simp] theorem again_plain (F : Fun) (d : Option Nat) (op : IOp) (l : List II) (s : St) : again F (⟨d, none, op⟩ :: l) s = (act F (dOf d) s.e s.r s.b op).bind (same3 (lk s.e (dOf d, 0)) (again F l s)) := rfl
@[simp] theorem again_guard (F : Fun) (d : Option Nat) (t : Nat) (w : Bool) (op : IOp) (l : List II) (s : St) : again F (⟨d, some (t, w), op⟩ :: l) s =
    guarded ((act F (dOf d) s.e s.r s.b op).bind (same3 (lk s.e (dOf d, 0)) (again F l s))) (again F l s) w (lk s.e (t, 0)) := guarded_eq _ _ _ _
@[simp] theorem setD_some (t : Nat) (v : V) (e : Env) : setD (some t) v e = .s (t, 0) v :: e := rfl
@[simp] theorem setD_none (v : V) (e : Env) : setD none v e = e := rfl
@[simp] theorem dOf_some (t : Nat) : dOf (some t) = t := rfl
@[simp] theorem dOf_none : dOf none = 1000000 := rfl
@[simp] theorem lendO : Ro.lend .own = .lent := rfl
@[simp] theorem lendL : Ro.lend .lent = .lent := rfl
@[simp] theorem lendS : Ro.lend .stat = .stat := rfl
@[simp] theorem underO (o : Ro) : Ro.under .own o = o := rfl
@[simp] theorem underL (o : Ro) : Ro.under .lent o = .lent := rfl
@[simp] theorem underS (o : Ro) : Ro.under .stat o = .stat := rfl
@[simp] theorem evT (e : Env) (i : Nat) : Opd.ev e (.t i) = lk e (i, 0) := rfl
@[simp] theorem evC (e : Env) (v : V) : Opd.ev e (.c v) = v := rfl
attribute [simp] act lk pois poisL hit pfx getR delR setR getB nodeAt walk T.node cellAt cellV cellsV Loc.ext boxLoc
attribute [simp] V.sure V.known takeC takeCs takeRows V.cells Fat.hd Fat.tl T.fat lend lends lendAs lendA handRow handRows boxCells handA handPtrs handRest
attribute [simp] V.locs locsL Loc.meets claims nones nodupL ptrsOf nodupB apart backRow backRows impC impCs impAs slots impA impRet impArgs newRoot newRoots newBox newBoxes keysOf boxesOf
attribute [simp] intOf? binV eq1 eqL eqV eqN putVs fillV fillS one bounds srcRows dstRows hands backs outCall doCall onFn freeV freeL freeE freeA
attribute [simp] Ren.get nameK keepB keep fixM fixR expC expCs expA resV expRs cellsOf giveRow giveRows give leave clean cleans cleanLL solid poisOf modAt modEl putCells putRow cut newEl
end

/-! What is carried over a loop's head: each step goes on from what the step before answers. -/
def pushE (x : Ent) : Env × Roots → Env × Roots | (e, q) => (x :: e, q)
def thenE (t : Slot) (e : Env) (r : Roots) (b : List (Nat × Nat)) (l : List (Slot × Fat)) : V × Ren × Roots → Env × Roots | (v, m, q) => pushE (.s t v) (carryE e r b l m q)
def pushL (x : V) : List V × Ren × Roots → List V × Ren × Roots | (e, q) => (x :: e, q)
def thenL (r : Roots) (b : List (Nat × Nat)) (t j : Nat) (fs : Fat) (l : List V) : V × Ren × Roots → List V × Ren × Roots | (v, m, q) => pushL v (carryL r b t j fs m q l)
def aggE : List V × Ren × Roots → V × Ren × Roots | (l, q) => (.agg l, q)
def fnE (f : Nat) : List V × Ren × Roots → V × Ren × Roots | (l, q) => (.fn f l, q)
def nilE (k : Key) (m : Ren) (q : Roots) : Option Nat → V × Ren × Roots
  | some es => (.sl ⟨k, []⟩ 0 0, m, (k, ⟨.own, es, []⟩) :: q)
  | none => (.nil, m, q)
def newE (v : Loc → V) (L : Loc) (k : Key) (m : Ren) (q : Roots) : Option Node → V × Ren × Roots
  | some n => (v ⟨k, L.path⟩, (L.key, k) :: m, (k, n) :: q)
  | none => (.un, m, q)
def oldE (v : Loc → V) (L : Loc) (k : Key) (r : Roots) (m : Ren) (q : Roots) : Option Key → V × Ren × Roots
  | some k => (v ⟨k, L.path⟩, m, q)
  | none => newE v L k m q (getR r L.key)
@[simp] theorem pushE_mk (x : Ent) (e : Env) (q : Roots) : pushE x (e, q) = (x :: e, q) := rfl
@[simp] theorem thenE_mk (t : Slot) (e : Env) (r : Roots) (b : List (Nat × Nat)) (l : List (Slot × Fat)) (v : V) (m : Ren) (q : Roots) : thenE t e r b l (v, m, q) = pushE (.s t v) (carryE e r b l m q) := rfl
@[simp] theorem pushL_mk (x : V) (e : List V) (q : Ren × Roots) : pushL x (e, q) = (x :: e, q) := rfl
@[simp] theorem thenL_mk (r : Roots) (b : List (Nat × Nat)) (t j : Nat) (fs : Fat) (l : List V) (v : V) (m : Ren) (q : Roots) : thenL r b t j fs l (v, m, q) = pushL v (carryL r b t j fs m q l) := rfl
@[simp] theorem aggE_mk (l : List V) (q : Ren × Roots) : aggE (l, q) = (.agg l, q) := rfl
@[simp] theorem fnE_mk (f : Nat) (l : List V) (q : Ren × Roots) : fnE f (l, q) = (.fn f l, q) := rfl
@[simp] theorem nilE_some (k : Key) (m : Ren) (q : Roots) (es : Nat) : nilE k m q (some es) = (.sl ⟨k, []⟩ 0 0, m, (k, ⟨.own, es, []⟩) :: q) := rfl
@[simp] theorem nilE_none (k : Key) (m : Ren) (q : Roots) : nilE k m q none = (.nil, m, q) := rfl
@[simp] theorem newE_some (v : Loc → V) (L : Loc) (k : Key) (m : Ren) (q : Roots) (n : Node) : newE v L k m q (some n) = (v ⟨k, L.path⟩, (L.key, k) :: m, (k, n) :: q) := rfl
@[simp] theorem newE_none (v : Loc → V) (L : Loc) (k : Key) (m : Ren) (q : Roots) : newE v L k m q none = (.un, m, q) := rfl
@[simp] theorem oldE_some (v : Loc → V) (L : Loc) (k k' : Key) (r : Roots) (m : Ren) (q : Roots) : oldE v L k r m q (some k') = (v ⟨k', L.path⟩, m, q) := rfl
@[simp] theorem oldE_none (v : Loc → V) (L : Loc) (k : Key) (r : Roots) (m : Ren) (q : Roots) : oldE v L k r m q none = newE v L k m q (getR r L.key) := rfl
section
variable (r : Roots) (b : List (Nat × Nat)) (k : Key) (f : Option Nat) (t c j : Nat) (fs : Fat) (m : Ren) (q : Roots)
@[simp] theorem carry1_val (v : Value) : carry1 r b k f m q (.val v) = (.val v, m, q) := rfl
@[simp] theorem carry1_nil : carry1 r b k f m q .nil = nilE k m q f := by cases f <;> rfl
@[simp] theorem carry1_sl (L : Loc) (o n : Nat) : carry1 r b k f m q (.sl L o n) = oldE (fun L => .sl L o n) L k r m q (m.get L.key) := by
  simp only [carry1]
  cases m.get L.key
  · cases h : getR r L.key <;> simp only [oldE, h] <;> rfl
  · rfl
@[simp] theorem carry1_pt (L : Loc) (i x : Nat) : carry1 r b k f m q (.pt L i x) = oldE (fun L => .pt L i x) L k r m q (m.get L.key) := by
  simp only [carry1]
  cases m.get L.key
  · cases h : getR r L.key <;> simp only [oldE, h] <;> rfl
  · rfl
@[simp] theorem carry1_bx (d x : Nat) : carry1 r b k f m q (.bx d x) = if (getB b d).isSome = true then (.bx d x, m, q) else (.un, m, q) := rfl
@[simp] theorem carry1_un : carry1 r b k f m q .un = (.un, m, q) := rfl
@[simp] theorem carry1_tup (l : List V) : carry1 r b k f m q (.tup l) = (.un, m, q) := rfl
@[simp] theorem carry1_agg (l : List V) : carry1 r b k f m q (.agg l) = (.un, m, q) := rfl
@[simp] theorem carry1_fn (g : Nat) (l : List V) : carry1 r b k f m q (.fn g l) = (.un, m, q) := rfl
@[simp] theorem carryL_nil : carryL r b t j fs m q [] = ([], m, q) := rfl
@[simp] theorem carryL_cons (v : V) (l : List V) : carryL r b t j fs m q (v :: l) = thenL r b t (j + 1) fs.tl l (carry1 r b (nameK t 0 j) fs.hd m q v) := rfl
@[simp] theorem carryV_val (v : Value) : carryV r b t c fs m q (.val v) = (.val v, m, q) := rfl
@[simp] theorem carryV_nil : carryV r b t c fs m q .nil = nilE (nameK t c 0) m q fs.hd := carry1_nil r b (nameK t c 0) fs.hd m q
@[simp] theorem carryV_sl (L : Loc) (o n : Nat) : carryV r b t c fs m q (.sl L o n) = oldE (fun L => .sl L o n) L (nameK t c 0) r m q (m.get L.key) := carry1_sl r b (nameK t c 0) fs.hd m q L o n
@[simp] theorem carryV_pt (L : Loc) (i x : Nat) : carryV r b t c fs m q (.pt L i x) = oldE (fun L => .pt L i x) L (nameK t c 0) r m q (m.get L.key) := carry1_pt r b (nameK t c 0) fs.hd m q L i x
@[simp] theorem carryV_bx (d x : Nat) : carryV r b t c fs m q (.bx d x) = if (getB b d).isSome = true then (.bx d x, m, q) else (.un, m, q) := rfl
@[simp] theorem carryV_un : carryV r b t c fs m q .un = (.un, m, q) := rfl
@[simp] theorem carryV_tup (l : List V) : carryV r b t c fs m q (.tup l) = (.un, m, q) := rfl
@[simp] theorem carryV_agg (l : List V) : carryV r b t 0 fs m q (.agg l) = aggE (carryL r b t 0 fs m q l) := rfl
@[simp] theorem carryV_fn (g : Nat) (l : List V) : carryV r b t 0 fs m q (.fn g l) = fnE g (carryL r b t 0 [] m q l) := rfl
@[simp] theorem carryE_nil (e : Env) : carryE e r b [] m q = ([], q) := rfl
@[simp] theorem carryE_cons (e : Env) (s : Slot) (l : List (Slot × Fat)) : carryE e r b ((s, fs) :: l) m q = thenE s e r b l (carryV r b s.1 s.2 fs m q (lk e s)) := rfl
end

theorem wrap64_eq {n : Int} (h1 : -9223372036854775808 ≤ n) (h2 : n ≤ 9223372036854775807) : IntKind.i64.wrap n = n := by
  have e1 : (2 : Int) ^ (64 : Nat) = 18446744073709551616 := by decide
  have e2 : (2 : Int) ^ (64 - 1 : Nat) = 9223372036854775808 := by decide
  simp only [IntKind.wrap, IntKind.bits, IntKind.signed, Bool.true_and, e1, e2]
  by_cases h : n % 18446744073709551616 ≥ 9223372036854775808
  · rw [if_pos (decide_eq_true h)]; omega
  · rw [if_neg (by simpa using h)]; omega

/-- A list of ints as a slice's elements. -/
def ints (l : List Int) : List (List T) := l.map fun n => [.val (.int .i64 n)]

end Go.Proofs.Ytekfjbejfondnaa.Tom
/-! The simplified code of the functions of this seat, printed by icode.py. -/
namespace Go.Proofs.Ytekfjbejfondnaa.Tom
open Go
/-! 3 loop.example/g00627/laws.FnExactValueOf -/
@[simp] def K_laws_FnExactValueOf_0 : Keep := ⟨[((4, 0), [])], [], []⟩
def C_laws_FnExactValueOf : IC := .seq (.reg [⟨some 2, none, .box 1 (.t 0)⟩,
      ⟨some 3, none, .box 2 (.t 1)⟩,
      ⟨some 4, none, .mv (.c (.val (.bool false)))⟩])
  (.seq (.reg [⟨some 5, none, .mv (.c (.val (.int .i64 1048576)))⟩])
  (.seq (.reg [⟨some 11, none, .load 1 true (.t 2)⟩,
      ⟨some 12, none, .mv (.t 5)⟩,
      ⟨some 13, none, .call 10 [.lent [some 3], .lent []] [.t 11, .t 12]⟩,
      ⟨some 5, none, .mv (.t 13)⟩])
  (.seq (.seq (.reg [⟨some 14, none, .mv (.t 5)⟩,
        ⟨some 15, none, .bin .lss (.t 14) (.c (.val (.int .i64 0)))⟩])
    (.cond (.t 15) (.seq (.reg [⟨some 4, none, .mv (.c (.val (.bool true)))⟩])
      (.ret K_laws_FnExactValueOf_0))
    (.skip)))
  (.seq (.dreg [⟨⟨some 17, none, .load 1 true (.t 2)⟩, 0, [], []⟩,
      ⟨⟨some 19, none, .load 2 true (.t 3)⟩, 2, [], []⟩,
      ⟨⟨some 18, none, .call 12 [.lent [some 3]] [.t 17]⟩, 1, [⟨some 19, none, .load 2 true (.t 3)⟩], []⟩,
      ⟨⟨some 20, none, .call 13 [.lent []] [.t 19]⟩, 3, [], []⟩,
      ⟨⟨some 21, none, .call 11 [.lent [some 3], .lent []] [.t 18, .t 20]⟩, 4, [], []⟩,
      ⟨⟨some 16, none, .mv (.t 21)⟩, 5, [], []⟩,
      ⟨⟨some 22, none, .extract (.t 16) 0⟩, 6, [], []⟩,
      ⟨⟨some 23, none, .extract (.t 16) 1⟩, 7, [], []⟩,
      ⟨⟨some 6, none, .mv (.t 22)⟩, 8, [], []⟩,
      ⟨⟨some 7, none, .mv (.t 23)⟩, 9, [], []⟩])
  (.seq (.reg [⟨some 24, none, .load 1 true (.t 2)⟩,
      ⟨some 25, none, .call 12 [.lent [some 3]] [.t 24]⟩,
      ⟨some 8, none, .alloc [.nil]⟩,
      ⟨none, none, .store [some 3] (.t 8) (.t 25)⟩])
  (.seq (.dreg [⟨⟨some 27, none, .load 1 true (.t 8)⟩, 0, [], []⟩,
      ⟨⟨some 28, none, .load 2 true (.t 3)⟩, 1, [], []⟩,
      ⟨⟨some 29, none, .call 13 [.lent []] [.t 28]⟩, 2, [⟨some 27, none, .load 1 true (.t 8)⟩], []⟩,
      ⟨⟨some 30, none, .call 14 [.lent [some 3], .lent []] [.t 27, .t 29]⟩, 3, [], []⟩,
      ⟨⟨some 26, none, .mv (.t 30)⟩, 4, [], []⟩,
      ⟨⟨some 31, none, .extract (.t 26) 0⟩, 5, [], []⟩,
      ⟨⟨some 32, none, .extract (.t 26) 1⟩, 6, [], []⟩,
      ⟨⟨some 9, none, .mv (.t 31)⟩, 7, [], []⟩,
      ⟨⟨some 10, none, .mv (.t 32)⟩, 8, [], []⟩])
  (.seq (.seq (.reg [⟨some 33, none, .mv (.t 9)⟩,
        ⟨some 34, none, .mv (.t 6)⟩,
        ⟨some 35, none, .bin .neq (.t 33) (.t 34)⟩,
        ⟨some 36, none, .mv (.t 35)⟩,
        ⟨some 37, some (36, false), .mv (.t 10)⟩,
        ⟨some 38, some (36, false), .mv (.t 7)⟩,
        ⟨some 39, some (36, false), .beq true (.t 37) (.t 38)⟩,
        ⟨some 40, none, .pick (.t 36) (.c (.val (.bool true))) (.t 39)⟩])
    (.cond (.t 40) (.seq (.reg [⟨some 4, none, .mv (.c (.val (.bool false)))⟩])
      (.ret K_laws_FnExactValueOf_0))
    (.skip)))
  (.seq (.seq (.dreg [⟨⟨some 41, none, .load 1 true (.t 8)⟩, 0, [], []⟩,
        ⟨⟨some 42, none, .load 1 true (.t 2)⟩, 1, [], []⟩,
        ⟨⟨some 43, none, .call 12 [.lent [some 3]] [.t 42]⟩, 2, [⟨some 41, none, .load 1 true (.t 8)⟩], []⟩,
        ⟨⟨some 44, none, .call 15 [.lent [some 3], .lent [some 3]] [.t 41, .t 43]⟩, 3, [], []⟩,
        ⟨⟨some 45, none, .un .not (.t 44)⟩, 4, [], []⟩])
    (.cond (.t 45) (.seq (.reg [⟨some 4, none, .mv (.c (.val (.bool false)))⟩])
      (.ret K_laws_FnExactValueOf_0))
    (.skip)))
  (.seq (.reg [⟨some 4, none, .mv (.c (.val (.bool true)))⟩])
  (.ret K_laws_FnExactValueOf_0))))))))))
def f_laws_FnExactValueOf : IFn := ⟨2, [(.t 4, [])], [], C_laws_FnExactValueOf⟩
/-! 4 loop.example/g00627/laws.FnExactLeftFor -/
@[simp] def K_laws_FnExactLeftFor_0 : Keep := ⟨[((2, 0), [])], [], []⟩
def C_laws_FnExactLeftFor : IC := .seq (.reg [⟨some 1, none, .box 1 (.t 0)⟩,
      ⟨some 2, none, .mv (.c (.val (.bool false)))⟩])
  (.seq (.reg [⟨some 3, none, .mv (.c (.val (.int .i64 1048576)))⟩])
  (.seq (.reg [⟨some 9, none, .load 1 true (.t 1)⟩,
      ⟨some 10, none, .mv (.t 3)⟩,
      ⟨some 11, none, .call 10 [.lent [some 3], .lent []] [.t 9, .t 10]⟩,
      ⟨some 3, none, .mv (.t 11)⟩])
  (.seq (.seq (.reg [⟨some 12, none, .mv (.t 3)⟩,
        ⟨some 13, none, .bin .lss (.t 12) (.c (.val (.int .i64 0)))⟩])
    (.cond (.t 13) (.seq (.reg [⟨some 2, none, .mv (.c (.val (.bool true)))⟩])
      (.ret K_laws_FnExactLeftFor_0))
    (.skip)))
  (.seq (.reg [⟨some 15, none, .load 1 true (.t 1)⟩,
      ⟨some 16, none, .call 12 [.lent [some 3]] [.t 15]⟩,
      ⟨some 17, none, .call 16 [.lent [some 3]] [.t 16]⟩,
      ⟨some 14, none, .mv (.t 17)⟩,
      ⟨some 18, none, .extract (.t 14) 0⟩,
      ⟨some 19, none, .extract (.t 14) 1⟩,
      ⟨some 4, none, .mv (.t 18)⟩,
      ⟨some 5, none, .mv (.t 19)⟩])
  (.seq (.reg [⟨some 20, none, .load 1 true (.t 1)⟩,
      ⟨some 21, none, .call 12 [.lent [some 3]] [.t 20]⟩,
      ⟨some 6, none, .alloc [.nil]⟩,
      ⟨none, none, .store [some 3] (.t 6) (.t 21)⟩])
  (.seq (.reg [⟨some 23, none, .load 1 true (.t 6)⟩,
      ⟨some 24, none, .call 17 [.lent [some 3]] [.t 23]⟩,
      ⟨some 22, none, .mv (.t 24)⟩,
      ⟨some 25, none, .extract (.t 22) 0⟩,
      ⟨some 26, none, .extract (.t 22) 1⟩,
      ⟨some 7, none, .mv (.t 25)⟩,
      ⟨some 8, none, .mv (.t 26)⟩])
  (.seq (.seq (.reg [⟨some 27, none, .mv (.t 7)⟩,
        ⟨some 28, none, .mv (.t 4)⟩,
        ⟨some 29, none, .bin .neq (.t 27) (.t 28)⟩,
        ⟨some 30, none, .mv (.t 29)⟩,
        ⟨some 31, some (30, false), .mv (.t 8)⟩,
        ⟨some 32, some (30, false), .mv (.t 5)⟩,
        ⟨some 33, some (30, false), .beq true (.t 31) (.t 32)⟩,
        ⟨some 34, none, .pick (.t 30) (.c (.val (.bool true))) (.t 33)⟩])
    (.cond (.t 34) (.seq (.reg [⟨some 2, none, .mv (.c (.val (.bool false)))⟩])
      (.ret K_laws_FnExactLeftFor_0))
    (.skip)))
  (.seq (.seq (.dreg [⟨⟨some 35, none, .load 1 true (.t 6)⟩, 0, [], []⟩,
        ⟨⟨some 36, none, .load 1 true (.t 1)⟩, 1, [], []⟩,
        ⟨⟨some 37, none, .call 12 [.lent [some 3]] [.t 36]⟩, 2, [⟨some 35, none, .load 1 true (.t 6)⟩], []⟩,
        ⟨⟨some 38, none, .call 15 [.lent [some 3], .lent [some 3]] [.t 35, .t 37]⟩, 3, [], []⟩,
        ⟨⟨some 39, none, .un .not (.t 38)⟩, 4, [], []⟩])
    (.cond (.t 39) (.seq (.reg [⟨some 2, none, .mv (.c (.val (.bool false)))⟩])
      (.ret K_laws_FnExactLeftFor_0))
    (.skip)))
  (.seq (.reg [⟨some 2, none, .mv (.c (.val (.bool true)))⟩])
  (.ret K_laws_FnExactLeftFor_0))))))))))
def f_laws_FnExactLeftFor : IFn := ⟨1, [(.t 2, [])], [], C_laws_FnExactLeftFor⟩
/-! 5 loop.example/g00627/laws.FnExactFreeHandle -/
@[simp] def K_laws_FnExactFreeHandle_0 : Keep := ⟨[((4, 0), [])], [], []⟩
def C_laws_FnExactFreeHandle : IC := .seq (.reg [⟨some 2, none, .box 1 (.t 0)⟩,
      ⟨some 3, none, .box 2 (.t 1)⟩,
      ⟨some 4, none, .mv (.c (.val (.bool false)))⟩])
  (.seq (.reg [⟨some 5, none, .mv (.c (.val (.int .i64 1048576)))⟩])
  (.seq (.reg [⟨some 16, none, .load 1 true (.t 2)⟩,
      ⟨some 17, none, .mv (.t 5)⟩,
      ⟨some 18, none, .call 10 [.lent [some 3], .lent []] [.t 16, .t 17]⟩,
      ⟨some 5, none, .mv (.t 18)⟩])
  (.seq (.seq (.reg [⟨some 19, none, .mv (.t 5)⟩,
        ⟨some 20, none, .bin .lss (.t 19) (.c (.val (.int .i64 0)))⟩])
    (.cond (.t 20) (.seq (.reg [⟨some 4, none, .mv (.c (.val (.bool true)))⟩])
      (.ret K_laws_FnExactFreeHandle_0))
    (.skip)))
  (.seq (.dreg [⟨⟨some 22, none, .load 1 true (.t 2)⟩, 0, [], []⟩,
      ⟨⟨some 24, none, .load 2 true (.t 3)⟩, 2, [], []⟩,
      ⟨⟨some 23, none, .call 12 [.lent [some 3]] [.t 22]⟩, 1, [⟨some 24, none, .load 2 true (.t 3)⟩], [6]⟩,
      ⟨⟨some 25, none, .call 13 [.lent []] [.t 24]⟩, 3, [], [6]⟩,
      ⟨⟨some 26, none, .call 18 [.lent [some 3], .lent []] [.t 23, .t 25]⟩, 4, [], [6]⟩,
      ⟨⟨some 21, none, .mv (.t 26)⟩, 5, [], []⟩,
      ⟨⟨some 27, none, .extract (.t 21) 0⟩, 6, [], []⟩,
      ⟨⟨some 28, none, .extract (.t 21) 1⟩, 7, [], []⟩,
      ⟨⟨some 6, none, .alloc [.nil]⟩, 8, [], []⟩,
      ⟨⟨none, none, .store [some 3] (.t 6) (.t 27)⟩, 9, [], []⟩,
      ⟨⟨some 7, none, .mv (.t 28)⟩, 10, [], []⟩])
  (.seq (.reg [⟨some 29, none, .load 1 true (.t 2)⟩,
      ⟨some 30, none, .call 12 [.lent [some 3]] [.t 29]⟩,
      ⟨some 8, none, .alloc [.nil]⟩,
      ⟨none, none, .store [some 3] (.t 8) (.t 30)⟩])
  (.seq (.dreg [⟨⟨some 32, none, .load 1 true (.t 8)⟩, 0, [], []⟩,
      ⟨⟨some 33, none, .load 2 true (.t 3)⟩, 1, [], []⟩,
      ⟨⟨some 34, none, .call 13 [.lent []] [.t 33]⟩, 2, [⟨some 32, none, .load 1 true (.t 8)⟩], [9]⟩,
      ⟨⟨some 35, none, .call 19 [.lent [some 3], .lent []] [.t 32, .t 34]⟩, 3, [], [9]⟩,
      ⟨⟨some 31, none, .mv (.t 35)⟩, 4, [], []⟩,
      ⟨⟨some 36, none, .extract (.t 31) 0⟩, 5, [], []⟩,
      ⟨⟨some 37, none, .extract (.t 31) 1⟩, 6, [], []⟩,
      ⟨⟨some 9, none, .alloc [.nil]⟩, 7, [], []⟩,
      ⟨⟨none, none, .store [some 3] (.t 9) (.t 36)⟩, 8, [], []⟩,
      ⟨⟨some 10, none, .mv (.t 37)⟩, 9, [], []⟩])
  (.seq (.seq (.reg [⟨some 38, none, .load 1 true (.t 9)⟩,
        ⟨some 39, none, .load 1 true (.t 6)⟩,
        ⟨some 40, none, .call 15 [.lent [some 3], .lent [some 3]] [.t 38, .t 39]⟩,
        ⟨some 41, none, .un .not (.t 40)⟩,
        ⟨some 42, none, .mv (.t 41)⟩,
        ⟨some 43, some (42, false), .mv (.t 10)⟩,
        ⟨some 44, some (42, false), .mv (.t 7)⟩,
        ⟨some 45, some (42, false), .beq true (.t 43) (.t 44)⟩,
        ⟨some 46, none, .pick (.t 42) (.c (.val (.bool true))) (.t 45)⟩])
    (.cond (.t 46) (.seq (.reg [⟨some 4, none, .mv (.c (.val (.bool false)))⟩])
      (.ret K_laws_FnExactFreeHandle_0))
    (.skip)))
  (.seq (.seq (.dreg [⟨⟨some 47, none, .load 1 true (.t 8)⟩, 0, [], []⟩,
        ⟨⟨some 48, none, .load 1 true (.t 2)⟩, 1, [], []⟩,
        ⟨⟨some 49, none, .call 12 [.lent [some 3]] [.t 48]⟩, 2, [⟨some 47, none, .load 1 true (.t 8)⟩], []⟩,
        ⟨⟨some 50, none, .call 15 [.lent [some 3], .lent [some 3]] [.t 47, .t 49]⟩, 3, [], []⟩,
        ⟨⟨some 51, none, .un .not (.t 50)⟩, 4, [], []⟩])
    (.cond (.t 51) (.seq (.reg [⟨some 4, none, .mv (.c (.val (.bool false)))⟩])
      (.ret K_laws_FnExactFreeHandle_0))
    (.skip)))
  (.seq (.reg [⟨some 11, none, .mv (.c (.val (.int .i64 1)))⟩])
  (.seq (.reg [⟨some 52, none, .load 1 true (.t 8)⟩,
      ⟨some 53, none, .mv (.t 11)⟩,
      ⟨some 54, none, .call 20 [.rows [some 3], .lent []] [.t 52, .t 53]⟩,
      ⟨some 11, none, .mv (.t 54)⟩])
  (.seq (.seq (.reg [⟨some 55, none, .mv (.t 11)⟩,
        ⟨some 56, none, .bin .lss (.t 55) (.c (.val (.int .i64 0)))⟩,
        ⟨some 57, none, .mv (.t 56)⟩,
        ⟨some 58, some (57, false), .load 1 true (.t 9)⟩,
        ⟨some 59, some (57, false), .load 1 true (.t 6)⟩,
        ⟨some 60, some (57, false), .call 15 [.lent [some 3], .lent [some 3]] [.t 58, .t 59]⟩,
        ⟨some 61, some (57, false), .un .not (.t 60)⟩,
        ⟨some 62, none, .pick (.t 57) (.c (.val (.bool true))) (.t 61)⟩,
        ⟨some 63, none, .mv (.t 62)⟩,
        ⟨some 64, some (63, false), .mv (.t 10)⟩,
        ⟨some 65, some (63, false), .mv (.t 7)⟩,
        ⟨some 66, some (63, false), .beq true (.t 64) (.t 65)⟩,
        ⟨some 67, none, .pick (.t 63) (.c (.val (.bool true))) (.t 66)⟩])
    (.cond (.t 67) (.seq (.reg [⟨some 4, none, .mv (.c (.val (.bool false)))⟩])
      (.ret K_laws_FnExactFreeHandle_0))
    (.skip)))
  (.seq (.reg [⟨some 12, none, .mv (.c (.val (.int .i64 1)))⟩])
  (.seq (.reg [⟨some 68, none, .load 1 true (.t 9)⟩,
      ⟨some 69, none, .mv (.t 12)⟩,
      ⟨some 70, none, .call 20 [.rows [some 3], .lent []] [.t 68, .t 69]⟩,
      ⟨some 12, none, .mv (.t 70)⟩])
  (.seq (.reg [⟨some 13, none, .mv (.c (.val (.int .i64 1)))⟩])
  (.seq (.reg [⟨some 71, none, .load 1 true (.t 9)⟩,
      ⟨some 72, none, .mv (.t 13)⟩,
      ⟨some 73, none, .call 21 [.lent [some 3], .lent []] [.t 71, .t 72]⟩,
      ⟨some 13, none, .mv (.t 73)⟩])
  (.seq (.seq (.reg [⟨some 74, none, .mv (.t 13)⟩,
        ⟨some 75, none, .bin .lss (.t 74) (.c (.val (.int .i64 0)))⟩])
    (.cond (.t 75) (.seq (.reg [⟨some 4, none, .mv (.c (.val (.bool false)))⟩])
      (.ret K_laws_FnExactFreeHandle_0))
    (.skip)))
  (.seq (.seq (.reg [⟨some 76, none, .mv (.t 13)⟩,
        ⟨some 77, none, .mv (.t 12)⟩,
        ⟨some 78, none, .bin .neq (.t 76) (.t 77)⟩])
    (.cond (.t 78) (.seq (.reg [⟨some 4, none, .mv (.c (.val (.bool false)))⟩])
      (.ret K_laws_FnExactFreeHandle_0))
    (.skip)))
  (.seq (.dreg [⟨⟨some 80, none, .load 1 true (.t 2)⟩, 0, [], []⟩,
      ⟨⟨some 82, none, .load 2 true (.t 3)⟩, 2, [], []⟩,
      ⟨⟨some 81, none, .call 12 [.lent [some 3]] [.t 80]⟩, 1, [⟨some 82, none, .load 2 true (.t 3)⟩], [14]⟩,
      ⟨⟨some 83, none, .call 13 [.lent []] [.t 82]⟩, 3, [], [14]⟩,
      ⟨⟨some 84, none, .call 19 [.lent [some 3], .lent []] [.t 81, .t 83]⟩, 4, [], [14]⟩,
      ⟨⟨some 79, none, .mv (.t 84)⟩, 5, [], []⟩,
      ⟨⟨some 85, none, .extract (.t 79) 0⟩, 6, [], []⟩,
      ⟨⟨some 86, none, .extract (.t 79) 1⟩, 7, [], []⟩,
      ⟨⟨some 14, none, .alloc [.nil]⟩, 8, [], []⟩,
      ⟨⟨none, none, .store [some 3] (.t 14) (.t 85)⟩, 9, [], []⟩,
      ⟨⟨some 15, none, .mv (.t 86)⟩, 10, [], []⟩])
  (.seq (.seq (.reg [⟨some 87, none, .load 1 true (.t 14)⟩,
        ⟨some 88, none, .load 1 true (.t 6)⟩,
        ⟨some 89, none, .call 15 [.lent [some 3], .lent [some 3]] [.t 87, .t 88]⟩,
        ⟨some 90, none, .un .not (.t 89)⟩,
        ⟨some 91, none, .mv (.t 90)⟩,
        ⟨some 92, some (91, false), .mv (.t 15)⟩,
        ⟨some 93, some (91, false), .mv (.t 7)⟩,
        ⟨some 94, some (91, false), .beq true (.t 92) (.t 93)⟩,
        ⟨some 95, none, .pick (.t 91) (.c (.val (.bool true))) (.t 94)⟩])
    (.cond (.t 95) (.seq (.reg [⟨some 4, none, .mv (.c (.val (.bool false)))⟩])
      (.ret K_laws_FnExactFreeHandle_0))
    (.skip)))
  (.seq (.reg [⟨some 13, none, .mv (.c (.val (.int .i64 1)))⟩])
  (.seq (.reg [⟨some 96, none, .load 1 true (.t 9)⟩,
      ⟨some 97, none, .mv (.t 13)⟩,
      ⟨some 98, none, .call 21 [.lent [some 3], .lent []] [.t 96, .t 97]⟩,
      ⟨some 13, none, .mv (.t 98)⟩])
  (.seq (.seq (.reg [⟨some 99, none, .mv (.t 13)⟩,
        ⟨some 100, none, .bin .lss (.t 99) (.c (.val (.int .i64 0)))⟩])
    (.cond (.t 100) (.seq (.reg [⟨some 4, none, .mv (.c (.val (.bool false)))⟩])
      (.ret K_laws_FnExactFreeHandle_0))
    (.skip)))
  (.seq (.seq (.reg [⟨some 101, none, .mv (.t 13)⟩,
        ⟨some 102, none, .mv (.t 12)⟩,
        ⟨some 103, none, .bin .neq (.t 101) (.t 102)⟩])
    (.cond (.t 103) (.seq (.reg [⟨some 4, none, .mv (.c (.val (.bool false)))⟩])
      (.ret K_laws_FnExactFreeHandle_0))
    (.skip)))
  (.seq (.reg [⟨some 4, none, .mv (.c (.val (.bool true)))⟩])
  (.ret K_laws_FnExactFreeHandle_0)))))))))))))))))))))))))
def f_laws_FnExactFreeHandle : IFn := ⟨2, [(.t 4, [])], [], C_laws_FnExactFreeHandle⟩
/-! 6 loop.example/g00627/laws.FnExactNewHandle -/
@[simp] def K_laws_FnExactNewHandle_0 : Keep := ⟨[((4, 0), [])], [], []⟩
def C_laws_FnExactNewHandle : IC := .seq (.reg [⟨some 2, none, .box 1 (.t 0)⟩,
      ⟨some 4, none, .mv (.c (.val (.bool false)))⟩])
  (.seq (.reg [⟨some 5, none, .mv (.c (.val (.int .i64 1048576)))⟩])
  (.seq (.reg [⟨some 19, none, .load 1 true (.t 2)⟩,
      ⟨some 20, none, .mv (.t 5)⟩,
      ⟨some 21, none, .call 10 [.lent [some 3], .lent []] [.t 19, .t 20]⟩,
      ⟨some 5, none, .mv (.t 21)⟩])
  (.seq (.seq (.reg [⟨some 22, none, .mv (.t 5)⟩,
        ⟨some 23, none, .bin .lss (.t 22) (.c (.val (.int .i64 0)))⟩])
    (.cond (.t 23) (.seq (.reg [⟨some 4, none, .mv (.c (.val (.bool true)))⟩])
      (.ret K_laws_FnExactNewHandle_0))
    (.skip)))
  (.seq (.reg [⟨some 25, none, .load 1 true (.t 2)⟩,
      ⟨some 26, none, .call 12 [.lent [some 3]] [.t 25]⟩,
      ⟨some 27, none, .mv (.t 1)⟩,
      ⟨some 28, none, .call 22 [.lent [some 3], .lent []] [.t 26, .t 27]⟩,
      ⟨some 24, none, .mv (.t 28)⟩,
      ⟨some 29, none, .extract (.t 24) 0⟩,
      ⟨some 30, none, .extract (.t 24) 1⟩,
      ⟨some 31, none, .extract (.t 24) 2⟩,
      ⟨some 6, none, .alloc [.nil]⟩,
      ⟨some 7, none, .alloc [.val (.int .i64 0), .val (.int .i64 0)]⟩,
      ⟨none, none, .store [some 3] (.t 6) (.t 29)⟩,
      ⟨none, none, .store [none, none] (.t 7) (.t 30)⟩,
      ⟨some 8, none, .mv (.t 31)⟩])
  (.seq (.reg [⟨some 32, none, .load 1 true (.t 2)⟩,
      ⟨some 33, none, .call 12 [.lent [some 3]] [.t 32]⟩,
      ⟨some 9, none, .alloc [.nil]⟩,
      ⟨none, none, .store [some 3] (.t 9) (.t 33)⟩])
  (.seq (.reg [⟨some 35, none, .load 1 true (.t 9)⟩,
      ⟨some 36, none, .mv (.t 1)⟩,
      ⟨some 37, none, .call 23 [.lent [some 3], .lent []] [.t 35, .t 36]⟩,
      ⟨some 34, none, .mv (.t 37)⟩,
      ⟨some 38, none, .extract (.t 34) 0⟩,
      ⟨some 39, none, .extract (.t 34) 1⟩,
      ⟨some 40, none, .extract (.t 34) 2⟩,
      ⟨some 10, none, .alloc [.nil]⟩,
      ⟨some 11, none, .alloc [.val (.int .i64 0), .val (.int .i64 0)]⟩,
      ⟨none, none, .store [some 3] (.t 10) (.t 38)⟩,
      ⟨none, none, .store [none, none] (.t 11) (.t 39)⟩,
      ⟨some 12, none, .mv (.t 40)⟩])
  (.seq (.seq (.reg [⟨some 41, none, .load 1 true (.t 10)⟩,
        ⟨some 42, none, .load 1 true (.t 6)⟩,
        ⟨some 43, none, .call 15 [.lent [some 3], .lent [some 3]] [.t 41, .t 42]⟩,
        ⟨some 44, none, .un .not (.t 43)⟩,
        ⟨some 45, none, .mv (.t 44)⟩,
        ⟨some 46, some (45, false), .load 2 true (.t 11)⟩,
        ⟨some 47, some (45, false), .load 2 true (.t 7)⟩,
        ⟨some 48, some (45, false), .call 24 [.lent [], .lent []] [.t 46, .t 47]⟩,
        ⟨some 49, some (45, false), .un .not (.t 48)⟩,
        ⟨some 50, none, .pick (.t 45) (.c (.val (.bool true))) (.t 49)⟩,
        ⟨some 51, none, .mv (.t 50)⟩,
        ⟨some 52, some (51, false), .mv (.t 12)⟩,
        ⟨some 53, some (51, false), .mv (.t 8)⟩,
        ⟨some 54, some (51, false), .beq true (.t 52) (.t 53)⟩,
        ⟨some 55, none, .pick (.t 51) (.c (.val (.bool true))) (.t 54)⟩])
    (.cond (.t 55) (.seq (.reg [⟨some 4, none, .mv (.c (.val (.bool false)))⟩])
      (.ret K_laws_FnExactNewHandle_0))
    (.skip)))
  (.seq (.seq (.dreg [⟨⟨some 56, none, .load 1 true (.t 9)⟩, 0, [], []⟩,
        ⟨⟨some 57, none, .load 1 true (.t 2)⟩, 1, [], []⟩,
        ⟨⟨some 58, none, .call 12 [.lent [some 3]] [.t 57]⟩, 2, [⟨some 56, none, .load 1 true (.t 9)⟩], []⟩,
        ⟨⟨some 59, none, .call 15 [.lent [some 3], .lent [some 3]] [.t 56, .t 58]⟩, 3, [], []⟩,
        ⟨⟨some 60, none, .un .not (.t 59)⟩, 4, [], []⟩])
    (.cond (.t 60) (.seq (.reg [⟨some 4, none, .mv (.c (.val (.bool false)))⟩])
      (.ret K_laws_FnExactNewHandle_0))
    (.skip)))
  (.seq (.reg [⟨some 13, none, .mv (.c (.val (.int .i64 1)))⟩])
  (.seq (.reg [⟨some 61, none, .load 1 true (.t 9)⟩,
      ⟨some 62, none, .mv (.t 13)⟩,
      ⟨some 63, none, .call 20 [.rows [some 3], .lent []] [.t 61, .t 62]⟩,
      ⟨some 13, none, .mv (.t 63)⟩])
  (.seq (.seq (.reg [⟨some 64, none, .mv (.t 13)⟩,
        ⟨some 65, none, .bin .lss (.t 64) (.c (.val (.int .i64 0)))⟩,
        ⟨some 66, none, .mv (.t 65)⟩,
        ⟨some 67, some (66, false), .load 1 true (.t 10)⟩,
        ⟨some 68, some (66, false), .load 1 true (.t 6)⟩,
        ⟨some 69, some (66, false), .call 15 [.lent [some 3], .lent [some 3]] [.t 67, .t 68]⟩,
        ⟨some 70, some (66, false), .un .not (.t 69)⟩,
        ⟨some 71, none, .pick (.t 66) (.c (.val (.bool true))) (.t 70)⟩,
        ⟨some 72, none, .mv (.t 71)⟩,
        ⟨some 73, some (72, false), .load 2 true (.t 11)⟩,
        ⟨some 74, some (72, false), .load 2 true (.t 7)⟩,
        ⟨some 75, some (72, false), .call 24 [.lent [], .lent []] [.t 73, .t 74]⟩,
        ⟨some 76, some (72, false), .un .not (.t 75)⟩,
        ⟨some 77, none, .pick (.t 72) (.c (.val (.bool true))) (.t 76)⟩,
        ⟨some 78, none, .mv (.t 77)⟩,
        ⟨some 79, some (78, false), .mv (.t 12)⟩,
        ⟨some 80, some (78, false), .mv (.t 8)⟩,
        ⟨some 81, some (78, false), .beq true (.t 79) (.t 80)⟩,
        ⟨some 82, none, .pick (.t 78) (.c (.val (.bool true))) (.t 81)⟩])
    (.cond (.t 82) (.seq (.reg [⟨some 4, none, .mv (.c (.val (.bool false)))⟩])
      (.ret K_laws_FnExactNewHandle_0))
    (.skip)))
  (.seq (.reg [⟨some 14, none, .mv (.c (.val (.int .i64 1)))⟩])
  (.seq (.reg [⟨some 83, none, .load 1 true (.t 10)⟩,
      ⟨some 84, none, .mv (.t 14)⟩,
      ⟨some 85, none, .call 20 [.rows [some 3], .lent []] [.t 83, .t 84]⟩,
      ⟨some 14, none, .mv (.t 85)⟩])
  (.seq (.reg [⟨some 15, none, .mv (.c (.val (.int .i64 1)))⟩])
  (.seq (.reg [⟨some 86, none, .load 1 true (.t 10)⟩,
      ⟨some 87, none, .mv (.t 15)⟩,
      ⟨some 88, none, .call 21 [.lent [some 3], .lent []] [.t 86, .t 87]⟩,
      ⟨some 15, none, .mv (.t 88)⟩])
  (.seq (.seq (.reg [⟨some 89, none, .mv (.t 15)⟩,
        ⟨some 90, none, .bin .lss (.t 89) (.c (.val (.int .i64 0)))⟩])
    (.cond (.t 90) (.seq (.reg [⟨some 4, none, .mv (.c (.val (.bool false)))⟩])
      (.ret K_laws_FnExactNewHandle_0))
    (.skip)))
  (.seq (.seq (.reg [⟨some 91, none, .mv (.t 15)⟩,
        ⟨some 92, none, .mv (.t 14)⟩,
        ⟨some 93, none, .bin .neq (.t 91) (.t 92)⟩])
    (.cond (.t 93) (.seq (.reg [⟨some 4, none, .mv (.c (.val (.bool false)))⟩])
      (.ret K_laws_FnExactNewHandle_0))
    (.skip)))
  (.seq (.reg [⟨some 95, none, .load 1 true (.t 2)⟩,
      ⟨some 96, none, .call 12 [.lent [some 3]] [.t 95]⟩,
      ⟨some 97, none, .mv (.t 1)⟩,
      ⟨some 98, none, .call 23 [.lent [some 3], .lent []] [.t 96, .t 97]⟩,
      ⟨some 94, none, .mv (.t 98)⟩,
      ⟨some 99, none, .extract (.t 94) 0⟩,
      ⟨some 100, none, .extract (.t 94) 1⟩,
      ⟨some 101, none, .extract (.t 94) 2⟩,
      ⟨some 16, none, .alloc [.nil]⟩,
      ⟨some 17, none, .alloc [.val (.int .i64 0), .val (.int .i64 0)]⟩,
      ⟨none, none, .store [some 3] (.t 16) (.t 99)⟩,
      ⟨none, none, .store [none, none] (.t 17) (.t 100)⟩,
      ⟨some 18, none, .mv (.t 101)⟩])
  (.seq (.seq (.reg [⟨some 102, none, .load 1 true (.t 16)⟩,
        ⟨some 103, none, .load 1 true (.t 6)⟩,
        ⟨some 104, none, .call 15 [.lent [some 3], .lent [some 3]] [.t 102, .t 103]⟩,
        ⟨some 105, none, .un .not (.t 104)⟩,
        ⟨some 106, none, .mv (.t 105)⟩,
        ⟨some 107, some (106, false), .load 2 true (.t 17)⟩,
        ⟨some 108, some (106, false), .load 2 true (.t 7)⟩,
        ⟨some 109, some (106, false), .call 24 [.lent [], .lent []] [.t 107, .t 108]⟩,
        ⟨some 110, some (106, false), .un .not (.t 109)⟩,
        ⟨some 111, none, .pick (.t 106) (.c (.val (.bool true))) (.t 110)⟩,
        ⟨some 112, none, .mv (.t 111)⟩,
        ⟨some 113, some (112, false), .mv (.t 18)⟩,
        ⟨some 114, some (112, false), .mv (.t 8)⟩,
        ⟨some 115, some (112, false), .beq true (.t 113) (.t 114)⟩,
        ⟨some 116, none, .pick (.t 112) (.c (.val (.bool true))) (.t 115)⟩])
    (.cond (.t 116) (.seq (.reg [⟨some 4, none, .mv (.c (.val (.bool false)))⟩])
      (.ret K_laws_FnExactNewHandle_0))
    (.skip)))
  (.seq (.reg [⟨some 15, none, .mv (.c (.val (.int .i64 1)))⟩])
  (.seq (.reg [⟨some 117, none, .load 1 true (.t 10)⟩,
      ⟨some 118, none, .mv (.t 15)⟩,
      ⟨some 119, none, .call 21 [.lent [some 3], .lent []] [.t 117, .t 118]⟩,
      ⟨some 15, none, .mv (.t 119)⟩])
  (.seq (.seq (.reg [⟨some 120, none, .mv (.t 15)⟩,
        ⟨some 121, none, .bin .lss (.t 120) (.c (.val (.int .i64 0)))⟩])
    (.cond (.t 121) (.seq (.reg [⟨some 4, none, .mv (.c (.val (.bool false)))⟩])
      (.ret K_laws_FnExactNewHandle_0))
    (.skip)))
  (.seq (.seq (.reg [⟨some 122, none, .mv (.t 15)⟩,
        ⟨some 123, none, .mv (.t 14)⟩,
        ⟨some 124, none, .bin .neq (.t 122) (.t 123)⟩])
    (.cond (.t 124) (.seq (.reg [⟨some 4, none, .mv (.c (.val (.bool false)))⟩])
      (.ret K_laws_FnExactNewHandle_0))
    (.skip)))
  (.seq (.reg [⟨some 4, none, .mv (.c (.val (.bool true)))⟩])
  (.ret K_laws_FnExactNewHandle_0)))))))))))))))))))))))))
def f_laws_FnExactNewHandle : IFn := ⟨2, [(.t 4, [])], [], C_laws_FnExactNewHandle⟩
/-! 7 loop.example/g00627/laws.FnFreed -/
@[simp] def K_laws_FnFreed_0 : Keep := ⟨[((4, 0), [])], [], []⟩
@[simp] def K_laws_FnFreed_1 : Keep := ⟨[((1, 0), [some 1])], [], []⟩
def B_laws_FnFreed_15 : IC := .seq (.reg [⟨some 129, none, .bin .lss (.t 128) (.t 127)⟩])
  (.seq (.cond (.t 129) (.skip)
    (.exit 0 K_laws_FnFreed_1))
  (.seq (.block 1 (.seq (.reg [⟨some 130, none, .mv (.t 128)⟩,
        ⟨some 131, none, .iaddr 3 (.t 126) (.t 128)⟩,
        ⟨some 132, none, .load 3 true (.t 131)⟩,
        ⟨some 20, none, .alloc [.val (.int .i64 0), .val (.bool false), .val (.int .i64 0)]⟩,
        ⟨some 19, none, .mv (.t 130)⟩,
        ⟨none, none, .store [none, none, none] (.t 20) (.t 132)⟩])
    (.seq (.dreg [⟨⟨some 133, none, .mv (.t 19)⟩, 0, [], []⟩,
        ⟨⟨some 134, none, .faddr (.t 8) 0⟩, 1, [], []⟩,
        ⟨⟨some 135, none, .load 1 false (.t 134)⟩, 2, [], []⟩,
        ⟨⟨some 136, none, .bin .neq (.t 133) (.t 135)⟩, 3, [], []⟩,
        ⟨⟨some 137, none, .mv (.t 136)⟩, 4, [], []⟩,
        ⟨⟨some 138, some (137, true), .faddr (.t 7) 0⟩, 5, [], []⟩,
        ⟨⟨some 139, some (137, true), .load 1 false (.t 138)⟩, 6, [], []⟩,
        ⟨⟨some 140, some (137, true), .mv (.t 19)⟩, 7, [], []⟩,
        ⟨⟨some 141, some (137, true), .iaddr 3 (.t 139) (.t 140)⟩, 8, [], []⟩,
        ⟨⟨some 142, some (137, true), .load 3 true (.t 141)⟩, 9, [], []⟩,
        ⟨⟨some 143, some (137, true), .load 3 true (.t 20)⟩, 10, [], []⟩,
        ⟨⟨some 144, some (137, true), .eqv true [0, 1, 0] (.t 142) (.t 143)⟩, 11, [], []⟩,
        ⟨⟨some 145, some (137, true), .mv (.t 144)⟩, 12, [], []⟩,
        ⟨⟨some 146, some (145, false), .faddr (.t 15) 0⟩, 13, [], []⟩,
        ⟨⟨some 147, some (145, false), .load 1 false (.t 146)⟩, 14, [], []⟩,
        ⟨⟨some 148, some (145, false), .mv (.t 19)⟩, 15, [], []⟩,
        ⟨⟨some 149, some (145, false), .iaddr 3 (.t 147) (.t 148)⟩, 16, [], []⟩,
        ⟨⟨some 150, some (145, false), .load 3 true (.t 149)⟩, 17, [], []⟩,
        ⟨⟨some 151, some (145, false), .load 3 true (.t 20)⟩, 18, [], []⟩,
        ⟨⟨some 152, some (145, false), .eqv true [0, 1, 0] (.t 150) (.t 151)⟩, 19, [], []⟩,
        ⟨⟨some 153, some (137, true), .pick (.t 145) (.c (.val (.bool true))) (.t 152)⟩, 20, [], []⟩,
        ⟨⟨some 154, none, .pick (.t 137) (.t 153) (.c (.val (.bool false)))⟩, 21, [], []⟩])
    (.cond (.t 154) (.seq (.reg [⟨some 4, none, .mv (.c (.val (.bool false)))⟩])
      (.ret K_laws_FnFreed_0))
    (.skip)))))
  (.reg [⟨some 155, none, .bin .add (.t 128) (.c (.val (.int .i64 1)))⟩,
    ⟨some 128, none, .mv (.t 155)⟩])))
@[simp] def K_laws_FnFreed_2 : Keep := ⟨[((1, 0), [some 1]), ((7, 0), []), ((8, 0), []), ((15, 0), []), ((126, 0), [some 3]), ((127, 0), []), ((128, 0), [])], [], []⟩
def L_laws_FnFreed_15 : IC := .loop K_laws_FnFreed_2 B_laws_FnFreed_15
def C_laws_FnFreed : IC := .seq (.reg [⟨some 4, none, .mv (.c (.val (.bool false)))⟩])
  (.seq (.seq (.reg [⟨some 36, none, .mv (.t 0)⟩,
        ⟨some 37, none, .len (.t 36)⟩,
        ⟨some 38, none, .mv (.t 1)⟩,
        ⟨some 39, none, .len (.t 38)⟩,
        ⟨some 40, none, .bin .add (.t 37) (.t 39)⟩,
        ⟨some 41, none, .bin .gtr (.t 40) (.c (.val (.int .i64 1048576)))⟩])
    (.cond (.t 41) (.seq (.reg [⟨some 4, none, .mv (.c (.val (.bool true)))⟩])
      (.ret K_laws_FnFreed_0))
    (.skip)))
  (.seq (.reg [⟨some 43, none, .mv (.t 0)⟩,
      ⟨some 44, none, .call 25 [.lent [some 1]] [.t 43]⟩,
      ⟨some 42, none, .mv (.t 44)⟩,
      ⟨some 45, none, .extract (.t 42) 0⟩,
      ⟨some 46, none, .extract (.t 42) 1⟩,
      ⟨some 5, none, .alloc [.nil]⟩,
      ⟨none, none, .store [some 3] (.t 5) (.t 45)⟩,
      ⟨some 6, none, .mv (.t 46)⟩])
  (.seq (.reg [⟨some 48, none, .load 1 true (.t 5)⟩,
      ⟨some 49, none, .mv (.t 6)⟩,
      ⟨some 50, none, .call 23 [.lent [some 3], .lent []] [.t 48, .t 49]⟩,
      ⟨some 47, none, .mv (.t 50)⟩,
      ⟨some 51, none, .extract (.t 47) 0⟩,
      ⟨some 52, none, .extract (.t 47) 1⟩,
      ⟨some 53, none, .extract (.t 47) 2⟩,
      ⟨some 7, none, .alloc [.nil]⟩,
      ⟨some 8, none, .alloc [.val (.int .i64 0), .val (.int .i64 0)]⟩,
      ⟨none, none, .store [some 3] (.t 7) (.t 51)⟩,
      ⟨none, none, .store [none, none] (.t 8) (.t 52)⟩,
      ⟨some 9, none, .mv (.t 53)⟩])
  (.seq (.reg [⟨some 55, none, .load 1 true (.t 5)⟩,
      ⟨some 56, none, .mv (.t 6)⟩,
      ⟨some 57, none, .call 22 [.lent [some 3], .lent []] [.t 55, .t 56]⟩,
      ⟨some 54, none, .mv (.t 57)⟩,
      ⟨some 58, none, .extract (.t 54) 0⟩,
      ⟨some 59, none, .extract (.t 54) 1⟩,
      ⟨some 60, none, .extract (.t 54) 2⟩,
      ⟨some 10, none, .alloc [.nil]⟩,
      ⟨some 11, none, .alloc [.val (.int .i64 0), .val (.int .i64 0)]⟩,
      ⟨none, none, .store [some 3] (.t 10) (.t 58)⟩,
      ⟨none, none, .store [none, none] (.t 11) (.t 59)⟩,
      ⟨some 12, none, .mv (.t 60)⟩])
  (.seq (.seq (.dreg [⟨⟨some 61, none, .mv (.t 9)⟩, 0, [], []⟩,
        ⟨⟨some 62, none, .mv (.t 12)⟩, 1, [], []⟩,
        ⟨⟨some 63, none, .beq true (.t 61) (.t 62)⟩, 2, [], []⟩,
        ⟨⟨some 64, none, .mv (.t 63)⟩, 3, [], []⟩,
        ⟨⟨some 65, some (64, false), .load 2 true (.t 8)⟩, 4, [], []⟩,
        ⟨⟨some 66, some (64, false), .load 2 true (.t 11)⟩, 5, [], []⟩,
        ⟨⟨some 67, some (64, false), .eqv true [0, 0] (.t 65) (.t 66)⟩, 6, [], []⟩,
        ⟨⟨some 68, none, .pick (.t 64) (.c (.val (.bool true))) (.t 67)⟩, 7, [], []⟩,
        ⟨⟨some 69, none, .mv (.t 68)⟩, 8, [], []⟩,
        ⟨⟨some 70, some (69, false), .load 1 true (.t 7)⟩, 9, [], []⟩,
        ⟨⟨some 71, some (69, false), .load 1 true (.t 10)⟩, 10, [], []⟩,
        ⟨⟨some 72, some (69, false), .call 26 [.lent [some 3], .lent [some 3]] [.t 70, .t 71]⟩, 11, [], []⟩,
        ⟨⟨some 73, some (69, false), .un .not (.t 72)⟩, 12, [], []⟩,
        ⟨⟨some 74, none, .pick (.t 69) (.c (.val (.bool true))) (.t 73)⟩, 13, [], []⟩,
        ⟨⟨some 75, none, .mv (.t 74)⟩, 14, [], []⟩,
        ⟨⟨some 76, some (75, false), .load 1 true (.t 5)⟩, 15, [], []⟩,
        ⟨⟨some 78, some (75, false), .load 1 true (.t 5)⟩, 17, [], []⟩,
        ⟨⟨some 77, some (75, false), .call 27 [.lent [some 3]] [.t 76]⟩, 16, [⟨some 78, some (75, false), .load 1 true (.t 5)⟩], []⟩,
        ⟨⟨some 79, some (75, false), .call 28 [.lent [some 3]] [.t 78]⟩, 18, [], []⟩,
        ⟨⟨some 80, some (75, false), .beq true (.t 77) (.t 79)⟩, 19, [], []⟩,
        ⟨⟨some 81, none, .pick (.t 75) (.c (.val (.bool true))) (.t 80)⟩, 20, [], []⟩])
    (.cond (.t 81) (.seq (.reg [⟨some 4, none, .mv (.c (.val (.bool false)))⟩])
      (.ret K_laws_FnFreed_0))
    (.skip)))
  (.seq (.seq (.reg [⟨some 82, none, .mv (.t 9)⟩])
    (.cond (.t 82) (.seq (.reg [⟨some 84, none, .load 1 true (.t 7)⟩,
          ⟨some 85, none, .load 2 true (.t 8)⟩,
          ⟨some 86, none, .call 14 [.lent [some 3], .lent []] [.t 84, .t 85]⟩,
          ⟨some 83, none, .mv (.t 86)⟩,
          ⟨some 87, none, .extract (.t 83) 0⟩,
          ⟨some 88, none, .extract (.t 83) 1⟩,
          ⟨some 13, none, .mv (.t 87)⟩,
          ⟨some 14, none, .mv (.t 88)⟩])
      (.seq (.reg [⟨some 90, none, .load 1 true (.t 7)⟩,
          ⟨some 91, none, .load 2 true (.t 8)⟩,
          ⟨some 92, none, .call 19 [.lent [some 3], .lent []] [.t 90, .t 91]⟩,
          ⟨some 89, none, .mv (.t 92)⟩,
          ⟨some 93, none, .extract (.t 89) 0⟩,
          ⟨some 94, none, .extract (.t 89) 1⟩,
          ⟨some 15, none, .alloc [.nil]⟩,
          ⟨none, none, .store [some 3] (.t 15) (.t 93)⟩,
          ⟨some 16, none, .mv (.t 94)⟩])
      (.seq (.reg [⟨some 96, none, .load 1 true (.t 15)⟩,
          ⟨some 97, none, .load 2 true (.t 8)⟩,
          ⟨some 98, none, .call 14 [.lent [some 3], .lent []] [.t 96, .t 97]⟩,
          ⟨some 95, none, .mv (.t 98)⟩,
          ⟨some 99, none, .extract (.t 95) 0⟩,
          ⟨some 100, none, .extract (.t 95) 1⟩,
          ⟨some 17, none, .mv (.t 99)⟩,
          ⟨some 18, none, .mv (.t 100)⟩])
      (.seq (.seq (.reg [⟨some 101, none, .load 1 true (.t 7)⟩,
            ⟨some 102, none, .call 27 [.lent [some 3]] [.t 101]⟩,
            ⟨some 103, none, .un .not (.t 102)⟩,
            ⟨some 104, none, .mv (.t 103)⟩,
            ⟨some 105, some (104, false), .mv (.t 14)⟩,
            ⟨some 106, some (104, false), .un .not (.t 105)⟩,
            ⟨some 107, none, .pick (.t 104) (.c (.val (.bool true))) (.t 106)⟩,
            ⟨some 108, none, .mv (.t 107)⟩,
            ⟨some 109, some (108, false), .mv (.t 13)⟩,
            ⟨some 110, some (108, false), .mv (.t 6)⟩,
            ⟨some 111, some (108, false), .bin .neq (.t 109) (.t 110)⟩,
            ⟨some 112, none, .pick (.t 108) (.c (.val (.bool true))) (.t 111)⟩,
            ⟨some 113, none, .mv (.t 112)⟩,
            ⟨some 114, some (113, false), .mv (.t 16)⟩,
            ⟨some 115, some (113, false), .un .not (.t 114)⟩,
            ⟨some 116, none, .pick (.t 113) (.c (.val (.bool true))) (.t 115)⟩,
            ⟨some 117, none, .mv (.t 116)⟩,
            ⟨some 118, some (117, false), .mv (.t 18)⟩,
            ⟨some 119, none, .pick (.t 117) (.c (.val (.bool true))) (.t 118)⟩,
            ⟨some 120, none, .mv (.t 119)⟩,
            ⟨some 121, some (120, false), .load 1 true (.t 15)⟩,
            ⟨some 122, some (120, false), .call 27 [.lent [some 3]] [.t 121]⟩,
            ⟨some 123, some (120, false), .un .not (.t 122)⟩,
            ⟨some 124, none, .pick (.t 120) (.c (.val (.bool true))) (.t 123)⟩])
        (.cond (.t 124) (.seq (.reg [⟨some 4, none, .mv (.c (.val (.bool false)))⟩])
          (.ret K_laws_FnFreed_0))
        (.skip)))
      (.seq (.reg [⟨some 125, none, .faddr (.t 5) 0⟩,
          ⟨some 126, none, .load 1 false (.t 125)⟩,
          ⟨some 127, none, .len (.t 126)⟩,
          ⟨some 128, none, .mv (.c (.val (.int .i64 0)))⟩])
      (.block 0 (L_laws_FnFreed_15)))))))
    (.skip)))
  (.seq (.reg [⟨some 157, none, .mv (.t 1)⟩,
      ⟨some 158, none, .call 29 [.lent [some 1]] [.t 157]⟩,
      ⟨some 156, none, .mv (.t 158)⟩,
      ⟨some 159, none, .extract (.t 156) 0⟩,
      ⟨some 160, none, .extract (.t 156) 1⟩,
      ⟨some 21, none, .alloc [.nil]⟩,
      ⟨some 22, none, .alloc [.val (.int .i64 0), .val (.int .i64 0)]⟩,
      ⟨none, none, .store [some 3] (.t 21) (.t 159)⟩,
      ⟨none, none, .store [none, none] (.t 22) (.t 160)⟩])
  (.seq (.reg [⟨some 162, none, .load 1 true (.t 21)⟩,
      ⟨some 163, none, .load 2 true (.t 22)⟩,
      ⟨some 164, none, .call 14 [.lent [some 3], .lent []] [.t 162, .t 163]⟩,
      ⟨some 161, none, .mv (.t 164)⟩,
      ⟨some 165, none, .extract (.t 161) 0⟩,
      ⟨some 166, none, .extract (.t 161) 1⟩,
      ⟨some 23, none, .mv (.t 165)⟩,
      ⟨some 24, none, .mv (.t 166)⟩])
  (.seq (.reg [⟨some 168, none, .load 1 true (.t 21)⟩,
      ⟨some 169, none, .load 2 true (.t 22)⟩,
      ⟨some 170, none, .call 11 [.lent [some 3], .lent []] [.t 168, .t 169]⟩,
      ⟨some 167, none, .mv (.t 170)⟩,
      ⟨some 171, none, .extract (.t 167) 0⟩,
      ⟨some 172, none, .extract (.t 167) 1⟩,
      ⟨some 25, none, .mv (.t 171)⟩,
      ⟨some 26, none, .mv (.t 172)⟩])
  (.seq (.reg [⟨some 174, none, .load 1 true (.t 21)⟩,
      ⟨some 175, none, .load 2 true (.t 22)⟩,
      ⟨some 176, none, .call 19 [.lent [some 3], .lent []] [.t 174, .t 175]⟩,
      ⟨some 173, none, .mv (.t 176)⟩,
      ⟨some 177, none, .extract (.t 173) 0⟩,
      ⟨some 178, none, .extract (.t 173) 1⟩,
      ⟨some 27, none, .alloc [.nil]⟩,
      ⟨none, none, .store [some 3] (.t 27) (.t 177)⟩,
      ⟨some 28, none, .mv (.t 178)⟩])
  (.seq (.reg [⟨some 180, none, .load 1 true (.t 21)⟩,
      ⟨some 181, none, .load 2 true (.t 22)⟩,
      ⟨some 182, none, .call 18 [.lent [some 3], .lent []] [.t 180, .t 181]⟩,
      ⟨some 179, none, .mv (.t 182)⟩,
      ⟨some 183, none, .extract (.t 179) 0⟩,
      ⟨some 184, none, .extract (.t 179) 1⟩,
      ⟨some 29, none, .alloc [.nil]⟩,
      ⟨none, none, .store [some 3] (.t 29) (.t 183)⟩,
      ⟨some 30, none, .mv (.t 184)⟩])
  (.seq (.reg [⟨some 185, none, .mv (.t 1)⟩,
      ⟨some 186, none, .call 30 [.lent [some 1]] [.t 185]⟩,
      ⟨some 31, none, .mv (.t 186)⟩])
  (.seq (.reg [⟨some 188, none, .mv (.t 31)⟩,
      ⟨some 189, none, .call 31 [.lent []] [.t 188]⟩,
      ⟨some 187, none, .mv (.t 189)⟩,
      ⟨some 190, none, .extract (.t 187) 0⟩,
      ⟨some 191, none, .extract (.t 187) 1⟩,
      ⟨some 32, none, .alloc [.nil]⟩,
      ⟨none, none, .store [some 3] (.t 32) (.t 190)⟩,
      ⟨some 33, none, .mv (.t 191)⟩])
  (.seq (.reg [⟨some 193, none, .mv (.t 31)⟩,
      ⟨some 194, none, .call 32 [.lent []] [.t 193]⟩,
      ⟨some 192, none, .mv (.t 194)⟩,
      ⟨some 195, none, .extract (.t 192) 0⟩,
      ⟨some 196, none, .extract (.t 192) 1⟩,
      ⟨some 34, none, .alloc [.nil]⟩,
      ⟨none, none, .store [some 3] (.t 34) (.t 195)⟩,
      ⟨some 35, none, .mv (.t 196)⟩])
  (.seq (.reg [⟨some 197, none, .mv (.t 24)⟩,
      ⟨some 198, none, .mv (.t 26)⟩,
      ⟨some 199, none, .beq false (.t 197) (.t 198)⟩,
      ⟨some 200, none, .mv (.t 199)⟩,
      ⟨some 201, some (200, true), .mv (.t 23)⟩,
      ⟨some 202, some (200, true), .mv (.t 25)⟩,
      ⟨some 203, some (200, true), .bin .eql (.t 201) (.t 202)⟩,
      ⟨some 204, none, .pick (.t 200) (.t 203) (.c (.val (.bool false)))⟩,
      ⟨some 205, none, .mv (.t 204)⟩,
      ⟨some 206, some (205, true), .mv (.t 28)⟩,
      ⟨some 207, some (205, true), .mv (.t 30)⟩,
      ⟨some 208, some (205, true), .beq false (.t 206) (.t 207)⟩,
      ⟨some 209, none, .pick (.t 205) (.t 208) (.c (.val (.bool false)))⟩,
      ⟨some 210, none, .mv (.t 209)⟩,
      ⟨some 211, some (210, true), .load 1 true (.t 27)⟩,
      ⟨some 212, some (210, true), .load 1 true (.t 29)⟩,
      ⟨some 213, some (210, true), .call 26 [.lent [some 3], .lent [some 3]] [.t 211, .t 212]⟩,
      ⟨some 214, none, .pick (.t 210) (.t 213) (.c (.val (.bool false)))⟩,
      ⟨some 215, none, .mv (.t 214)⟩,
      ⟨some 216, some (215, true), .mv (.t 33)⟩,
      ⟨some 217, some (215, true), .mv (.t 35)⟩,
      ⟨some 218, some (215, true), .beq false (.t 216) (.t 217)⟩,
      ⟨some 219, none, .pick (.t 215) (.t 218) (.c (.val (.bool false)))⟩,
      ⟨some 220, none, .mv (.t 219)⟩,
      ⟨some 221, some (220, true), .load 1 true (.t 32)⟩,
      ⟨some 222, some (220, true), .load 1 true (.t 34)⟩,
      ⟨some 223, some (220, true), .call 26 [.lent [some 3], .lent [some 3]] [.t 221, .t 222]⟩,
      ⟨some 224, none, .pick (.t 220) (.t 223) (.c (.val (.bool false)))⟩,
      ⟨some 4, none, .mv (.t 224)⟩])
  (.ret K_laws_FnFreed_0))))))))))))))))
def f_laws_FnFreed : IFn := ⟨2, [(.t 4, [])], [], C_laws_FnFreed⟩
/-! 8 loop.example/g00627/laws.FnHandles -/
@[simp] def K_laws_FnHandles_0 : Keep := ⟨[((4, 0), [])], [], []⟩
@[simp] def K_laws_FnHandles_1 : Keep := ⟨[((1, 0), [some 1]), ((5, 0), []), ((7, 0), []), ((13, 0), [some 2]), ((14, 0), [some 2]), ((15, 0), [some 1]), ((7, 1), [some 3])], [7], []⟩
@[simp] def K_laws_FnHandles_2 : Keep := ⟨[((1, 0), [some 1]), ((5, 0), []), ((6, 0), [some 4]), ((7, 0), []), ((13, 0), [some 2]), ((14, 0), [some 2]), ((15, 0), [some 1]), ((75, 0), [some 2]), ((76, 0), []), ((77, 0), []), ((7, 1), [some 3])], [7], []⟩
@[simp] def K_laws_FnHandles_3 : Keep := ⟨[((1, 0), [some 1]), ((5, 0), []), ((6, 0), [some 4]), ((7, 0), []), ((13, 0), [some 2]), ((14, 0), [some 2]), ((15, 0), [some 1]), ((16, 0), []), ((17, 0), []), ((75, 0), [some 2]), ((76, 0), []), ((77, 0), []), ((7, 1), [some 3]), ((17, 1), []), ((17, 2), [])], [7, 17], []⟩
def B_laws_FnHandles_18 : IC := .seq (.reg [⟨some 99, none, .bin .lss (.t 98) (.t 97)⟩])
  (.seq (.cond (.t 99) (.skip)
    (.exit 2 K_laws_FnHandles_3))
  (.seq (.block 3 (.seq (.reg [⟨some 100, none, .iaddr 2 (.t 96) (.t 98)⟩,
        ⟨some 101, none, .load 2 true (.t 100)⟩,
        ⟨some 19, none, .alloc [.val (.int .i64 0), .val (.int .i64 0)]⟩,
        ⟨none, none, .store [none, none] (.t 19) (.t 101)⟩])
    (.seq (.reg [⟨some 102, none, .load 2 true (.t 19)⟩,
        ⟨some 103, none, .load 2 true (.t 17)⟩,
        ⟨some 104, none, .eqv false [0, 0] (.t 102) (.t 103)⟩])
    (.cond (.t 104) (.seq (.reg [⟨some 4, none, .mv (.c (.val (.bool false)))⟩])
      (.ret K_laws_FnHandles_0))
    (.skip)))))
  (.reg [⟨some 105, none, .bin .add (.t 98) (.c (.val (.int .i64 1)))⟩,
    ⟨some 98, none, .mv (.t 105)⟩])))
@[simp] def K_laws_FnHandles_4 : Keep := ⟨[((1, 0), [some 1]), ((5, 0), []), ((6, 0), [some 4]), ((7, 0), []), ((13, 0), [some 2]), ((14, 0), [some 2]), ((15, 0), [some 1]), ((16, 0), []), ((17, 0), []), ((75, 0), [some 2]), ((76, 0), []), ((77, 0), []), ((96, 0), [some 2]), ((97, 0), []), ((98, 0), [])], [], []⟩
def L_laws_FnHandles_18 : IC := .loop K_laws_FnHandles_4 B_laws_FnHandles_18
def B_laws_FnHandles_12 : IC := .seq (.reg [⟨some 78, none, .bin .lss (.t 77) (.t 76)⟩])
  (.seq (.cond (.t 78) (.skip)
    (.exit 0 K_laws_FnHandles_1))
  (.seq (.block 1 (.seq (.reg [⟨some 79, none, .mv (.t 77)⟩,
        ⟨some 80, none, .iaddr 2 (.t 75) (.t 77)⟩,
        ⟨some 81, none, .load 2 true (.t 80)⟩,
        ⟨some 17, none, .alloc [.val (.int .i64 0), .val (.int .i64 0)]⟩,
        ⟨some 16, none, .mv (.t 79)⟩,
        ⟨none, none, .store [none, none] (.t 17) (.t 81)⟩])
    (.seq (.seq (.reg [⟨some 82, none, .faddr (.t 17) 0⟩,
          ⟨some 83, none, .load 1 false (.t 82)⟩,
          ⟨some 84, none, .bin .eql (.t 83) (.c (.val (.int .i64 (-1))))⟩])
      (.cond (.t 84) (.reg [⟨some 85, none, .mv (.t 14)⟩,
          ⟨some 86, none, .mv (.t 6)⟩,
          ⟨some 87, none, .mv (.t 16)⟩,
          ⟨some 88, none, .iaddr 4 (.t 86) (.t 87)⟩,
          ⟨some 89, none, .faddr (.t 88) 2⟩,
          ⟨some 90, none, .load 2 true (.t 89)⟩,
          ⟨some 91, none, .bslice [none, none] [[.val (.int .i64 0), .val (.int .i64 0)]] [(0, .t 90)]⟩,
          ⟨some 92, none, .append 2 16 (.t 85) (.t 91)⟩,
          ⟨some 14, none, .mv (.t 92)⟩])
      (.skip)))
    (.seq (.seq (.reg [⟨some 93, none, .faddr (.t 17) 0⟩,
          ⟨some 94, none, .load 1 false (.t 93)⟩,
          ⟨some 95, none, .bin .lss (.t 94) (.c (.val (.int .i64 0)))⟩])
      (.cond (.t 95) (.exit 1 K_laws_FnHandles_2)
      (.skip)))
    (.seq (.seq (.reg [⟨some 96, none, .mv (.t 13)⟩,
          ⟨some 97, none, .len (.t 96)⟩,
          ⟨some 98, none, .mv (.c (.val (.int .i64 0)))⟩])
      (.block 2 (L_laws_FnHandles_18)))
    (.seq (.reg [⟨some 106, none, .mv (.t 13)⟩,
        ⟨some 107, none, .load 2 true (.t 17)⟩,
        ⟨some 108, none, .bslice [none, none] [[.val (.int .i64 0), .val (.int .i64 0)]] [(0, .t 107)]⟩,
        ⟨some 109, none, .append 2 16 (.t 106) (.t 108)⟩,
        ⟨some 13, none, .mv (.t 109)⟩])
    (.reg [⟨some 110, none, .mv (.t 15)⟩,
      ⟨some 111, none, .mv (.t 6)⟩,
      ⟨some 112, none, .mv (.t 16)⟩,
      ⟨some 113, none, .iaddr 4 (.t 111) (.t 112)⟩,
      ⟨some 114, none, .faddr (.t 113) 1⟩,
      ⟨some 115, none, .load 1 false (.t 114)⟩,
      ⟨some 116, none, .bslice [none] [[.val (.int .i64 0)]] [(0, .t 115)]⟩,
      ⟨some 117, none, .append 1 8 (.t 110) (.t 116)⟩,
      ⟨some 15, none, .mv (.t 117)⟩])))))))
  (.reg [⟨some 118, none, .bin .add (.t 77) (.c (.val (.int .i64 1)))⟩,
    ⟨some 77, none, .mv (.t 118)⟩])))
@[simp] def K_laws_FnHandles_5 : Keep := ⟨[((1, 0), [some 1]), ((5, 0), []), ((6, 0), [some 4]), ((7, 0), []), ((13, 0), [some 2]), ((14, 0), [some 2]), ((15, 0), [some 1]), ((75, 0), [some 2]), ((76, 0), []), ((77, 0), [])], [], []⟩
def L_laws_FnHandles_12 : IC := .loop K_laws_FnHandles_5 B_laws_FnHandles_12
@[simp] def K_laws_FnHandles_6 : Keep := ⟨[((1, 0), [some 1])], [], []⟩
@[simp] def K_laws_FnHandles_7 : Keep := ⟨[((1, 0), [some 1]), ((7, 0), []), ((14, 0), [some 2]), ((15, 0), [some 1]), ((22, 0), []), ((23, 0), []), ((24, 0), []), ((140, 0), [some 2]), ((141, 0), []), ((142, 0), []), ((7, 1), [some 3]), ((23, 1), []), ((23, 2), [])], [7, 23], []⟩
def B_laws_FnHandles_34 : IC := .seq (.reg [⟨some 150, none, .bin .lss (.t 149) (.t 148)⟩])
  (.seq (.cond (.t 150) (.skip)
    (.exit 6 K_laws_FnHandles_7))
  (.seq (.block 7 (.seq (.reg [⟨some 151, none, .iaddr 2 (.t 147) (.t 149)⟩,
        ⟨some 152, none, .load 2 true (.t 151)⟩,
        ⟨some 26, none, .alloc [.val (.int .i64 0), .val (.int .i64 0)]⟩,
        ⟨none, none, .store [none, none] (.t 26) (.t 152)⟩])
    (.reg [⟨some 153, none, .mv (.t 24)⟩,
      ⟨some 154, none, .mv (.t 153)⟩,
      ⟨some 155, some (154, false), .load 2 true (.t 26)⟩,
      ⟨some 156, some (154, false), .load 2 true (.t 23)⟩,
      ⟨some 157, some (154, false), .eqv false [0, 0] (.t 155) (.t 156)⟩,
      ⟨some 158, none, .pick (.t 154) (.c (.val (.bool true))) (.t 157)⟩,
      ⟨some 24, none, .mv (.t 158)⟩])))
  (.reg [⟨some 159, none, .bin .add (.t 149) (.c (.val (.int .i64 1)))⟩,
    ⟨some 149, none, .mv (.t 159)⟩])))
@[simp] def K_laws_FnHandles_8 : Keep := ⟨[((1, 0), [some 1]), ((7, 0), []), ((14, 0), [some 2]), ((15, 0), [some 1]), ((22, 0), []), ((23, 0), []), ((24, 0), []), ((140, 0), [some 2]), ((141, 0), []), ((142, 0), []), ((147, 0), [some 2]), ((148, 0), []), ((149, 0), []), ((7, 1), [some 3]), ((23, 1), []), ((23, 2), [])], [7, 23], []⟩
def L_laws_FnHandles_34 : IC := .loop K_laws_FnHandles_8 B_laws_FnHandles_34
def B_laws_FnHandles_30 : IC := .seq (.reg [⟨some 143, none, .bin .lss (.t 142) (.t 141)⟩])
  (.seq (.cond (.t 143) (.skip)
    (.exit 4 K_laws_FnHandles_6))
  (.seq (.block 5 (.seq (.reg [⟨some 144, none, .mv (.t 142)⟩,
        ⟨some 145, none, .iaddr 2 (.t 140) (.t 142)⟩,
        ⟨some 146, none, .load 2 true (.t 145)⟩,
        ⟨some 23, none, .alloc [.val (.int .i64 0), .val (.int .i64 0)]⟩,
        ⟨some 22, none, .mv (.t 144)⟩,
        ⟨none, none, .store [none, none] (.t 23) (.t 146)⟩])
    (.seq (.reg [⟨some 24, none, .mv (.c (.val (.bool false)))⟩])
    (.seq (.seq (.reg [⟨some 147, none, .mv (.t 14)⟩,
          ⟨some 148, none, .len (.t 147)⟩,
          ⟨some 149, none, .mv (.c (.val (.int .i64 0)))⟩])
      (.block 6 (L_laws_FnHandles_34)))
    (.seq (.reg [⟨some 161, none, .load 1 true (.t 7)⟩,
        ⟨some 162, none, .load 2 true (.t 23)⟩,
        ⟨some 163, none, .call 14 [.lent [some 3], .lent []] [.t 161, .t 162]⟩,
        ⟨some 160, none, .mv (.t 163)⟩,
        ⟨some 164, none, .extract (.t 160) 0⟩,
        ⟨some 165, none, .extract (.t 160) 1⟩,
        ⟨some 27, none, .mv (.t 164)⟩,
        ⟨some 28, none, .mv (.t 165)⟩])
    (.seq (.reg [⟨some 166, none, .mv (.t 28)⟩,
        ⟨some 167, none, .mv (.t 24)⟩,
        ⟨some 168, none, .beq false (.t 166) (.t 167)⟩,
        ⟨some 169, none, .mv (.t 168)⟩,
        ⟨some 170, some (169, false), .mv (.t 28)⟩,
        ⟨some 171, some (169, false), .mv (.t 170)⟩,
        ⟨some 172, some (171, true), .mv (.t 27)⟩,
        ⟨some 173, some (171, true), .mv (.t 15)⟩,
        ⟨some 174, some (171, true), .mv (.t 22)⟩,
        ⟨some 175, some (171, true), .iaddr 1 (.t 173) (.t 174)⟩,
        ⟨some 176, some (171, true), .load 1 false (.t 175)⟩,
        ⟨some 177, some (171, true), .bin .neq (.t 172) (.t 176)⟩,
        ⟨some 178, some (169, false), .pick (.t 171) (.t 177) (.c (.val (.bool false)))⟩,
        ⟨some 179, none, .pick (.t 169) (.c (.val (.bool true))) (.t 178)⟩])
    (.cond (.t 179) (.seq (.reg [⟨some 4, none, .mv (.c (.val (.bool false)))⟩])
      (.ret K_laws_FnHandles_0))
    (.skip))))))))
  (.reg [⟨some 180, none, .bin .add (.t 142) (.c (.val (.int .i64 1)))⟩,
    ⟨some 142, none, .mv (.t 180)⟩])))
@[simp] def K_laws_FnHandles_9 : Keep := ⟨[((1, 0), [some 1]), ((7, 0), []), ((14, 0), [some 2]), ((15, 0), [some 1]), ((140, 0), [some 2]), ((141, 0), []), ((142, 0), [])], [], []⟩
def L_laws_FnHandles_30 : IC := .loop K_laws_FnHandles_9 B_laws_FnHandles_30
def C_laws_FnHandles : IC := .seq (.reg [⟨some 4, none, .mv (.c (.val (.bool false)))⟩])
  (.seq (.seq (.reg [⟨some 34, none, .mv (.t 0)⟩,
        ⟨some 35, none, .len (.t 34)⟩,
        ⟨some 36, none, .mv (.t 1)⟩,
        ⟨some 37, none, .len (.t 36)⟩,
        ⟨some 38, none, .bin .add (.t 35) (.t 37)⟩,
        ⟨some 39, none, .bin .gtr (.t 38) (.c (.val (.int .i64 1048576)))⟩])
    (.cond (.t 39) (.seq (.reg [⟨some 4, none, .mv (.c (.val (.bool true)))⟩])
      (.ret K_laws_FnHandles_0))
    (.skip)))
  (.seq (.reg [⟨some 41, none, .mv (.t 0)⟩,
      ⟨some 42, none, .call 33 [.lent [some 1]] [.t 41]⟩,
      ⟨some 40, none, .mv (.t 42)⟩,
      ⟨some 43, none, .extract (.t 40) 0⟩,
      ⟨some 44, none, .extract (.t 40) 1⟩,
      ⟨some 5, none, .mv (.t 43)⟩,
      ⟨some 6, none, .mv (.t 44)⟩])
  (.seq (.reg [⟨some 46, none, .mv (.t 5)⟩,
      ⟨some 47, none, .mv (.t 6)⟩,
      ⟨some 48, none, .call 34 [.lent [], .row [some 4]] [.t 46, .t 47]⟩,
      ⟨some 45, none, .mv (.t 48)⟩,
      ⟨some 49, none, .extract (.t 45) 0⟩,
      ⟨some 50, none, .extract (.t 45) 1⟩,
      ⟨some 51, none, .extract (.t 45) 2⟩,
      ⟨some 7, none, .alloc [.nil]⟩,
      ⟨none, none, .store [some 3] (.t 7) (.t 49)⟩,
      ⟨some 8, none, .mv (.t 50)⟩,
      ⟨some 9, none, .mv (.t 51)⟩])
  (.seq (.reg [⟨some 53, none, .mv (.t 5)⟩,
      ⟨some 54, none, .mv (.t 6)⟩,
      ⟨some 55, none, .call 35 [.lent [], .lent [some 4]] [.t 53, .t 54]⟩,
      ⟨some 52, none, .mv (.t 55)⟩,
      ⟨some 56, none, .extract (.t 52) 0⟩,
      ⟨some 57, none, .extract (.t 52) 1⟩,
      ⟨some 58, none, .extract (.t 52) 2⟩,
      ⟨some 10, none, .alloc [.nil]⟩,
      ⟨none, none, .store [some 3] (.t 10) (.t 56)⟩,
      ⟨some 11, none, .mv (.t 57)⟩,
      ⟨some 12, none, .mv (.t 58)⟩])
  (.seq (.seq (.reg [⟨some 59, none, .mv (.t 9)⟩,
        ⟨some 60, none, .mv (.t 12)⟩,
        ⟨some 61, none, .beq true (.t 59) (.t 60)⟩,
        ⟨some 62, none, .mv (.t 61)⟩,
        ⟨some 63, some (62, false), .mv (.t 8)⟩,
        ⟨some 64, some (62, false), .mv (.t 11)⟩,
        ⟨some 65, some (62, false), .call 36 [.lent [some 2], .lent [some 2]] [.t 63, .t 64]⟩,
        ⟨some 66, some (62, false), .un .not (.t 65)⟩,
        ⟨some 67, none, .pick (.t 62) (.c (.val (.bool true))) (.t 66)⟩,
        ⟨some 68, none, .mv (.t 67)⟩,
        ⟨some 69, some (68, false), .load 1 true (.t 7)⟩,
        ⟨some 70, some (68, false), .load 1 true (.t 10)⟩,
        ⟨some 71, some (68, false), .call 26 [.lent [some 3], .lent [some 3]] [.t 69, .t 70]⟩,
        ⟨some 72, some (68, false), .un .not (.t 71)⟩,
        ⟨some 73, none, .pick (.t 68) (.c (.val (.bool true))) (.t 72)⟩])
    (.cond (.t 73) (.seq (.reg [⟨some 4, none, .mv (.c (.val (.bool false)))⟩])
      (.ret K_laws_FnHandles_0))
    (.skip)))
  (.seq (.seq (.reg [⟨some 74, none, .mv (.t 9)⟩])
    (.cond (.t 74) (.seq (.reg [⟨some 13, none, .mv (.c (.nil))⟩,
          ⟨some 14, none, .mv (.c (.nil))⟩])
      (.seq (.reg [⟨some 15, none, .mv (.c (.nil))⟩])
      (.seq (.seq (.reg [⟨some 75, none, .mv (.t 8)⟩,
            ⟨some 76, none, .len (.t 75)⟩,
            ⟨some 77, none, .mv (.c (.val (.int .i64 0)))⟩])
        (.block 0 (L_laws_FnHandles_12)))
      (.seq (.reg [⟨some 120, none, .load 1 true (.t 7)⟩,
          ⟨some 121, none, .call 17 [.lent [some 3]] [.t 120]⟩,
          ⟨some 119, none, .mv (.t 121)⟩,
          ⟨some 122, none, .extract (.t 119) 0⟩,
          ⟨some 123, none, .extract (.t 119) 1⟩,
          ⟨some 20, none, .mv (.t 122)⟩,
          ⟨some 21, none, .mv (.t 123)⟩])
      (.seq (.seq (.reg [⟨some 124, none, .load 1 true (.t 7)⟩,
            ⟨some 125, none, .call 27 [.lent [some 3]] [.t 124]⟩,
            ⟨some 126, none, .un .not (.t 125)⟩,
            ⟨some 127, none, .mv (.t 126)⟩,
            ⟨some 128, some (127, false), .mv (.t 21)⟩,
            ⟨some 129, some (127, false), .un .not (.t 128)⟩,
            ⟨some 130, none, .pick (.t 127) (.c (.val (.bool true))) (.t 129)⟩,
            ⟨some 131, none, .mv (.t 130)⟩,
            ⟨some 132, some (131, false), .mv (.t 20)⟩,
            ⟨some 133, some (131, false), .mv (.t 13)⟩,
            ⟨some 134, some (131, false), .len (.t 133)⟩,
            ⟨some 135, some (131, false), .bin .add (.t 132) (.t 134)⟩,
            ⟨some 136, some (131, false), .mv (.t 5)⟩,
            ⟨some 137, some (131, false), .bin .mul (.t 136) (.c (.val (.int .i64 8)))⟩,
            ⟨some 138, some (131, false), .bin .neq (.t 135) (.t 137)⟩,
            ⟨some 139, none, .pick (.t 131) (.c (.val (.bool true))) (.t 138)⟩])
        (.cond (.t 139) (.seq (.reg [⟨some 4, none, .mv (.c (.val (.bool false)))⟩])
          (.ret K_laws_FnHandles_0))
        (.skip)))
      (.seq (.reg [⟨some 140, none, .mv (.t 13)⟩,
          ⟨some 141, none, .len (.t 140)⟩,
          ⟨some 142, none, .mv (.c (.val (.int .i64 0)))⟩])
      (.block 4 (L_laws_FnHandles_30))))))))
    (.skip)))
  (.seq (.reg [⟨some 181, none, .mv (.t 1)⟩,
      ⟨some 182, none, .call 37 [.lent [some 1]] [.t 181]⟩,
      ⟨some 29, none, .alloc [.nil]⟩,
      ⟨none, none, .store [some 3] (.t 29) (.t 182)⟩])
  (.seq (.reg [⟨some 184, none, .load 1 true (.t 29)⟩,
      ⟨some 185, none, .call 17 [.lent [some 3]] [.t 184]⟩,
      ⟨some 183, none, .mv (.t 185)⟩,
      ⟨some 186, none, .extract (.t 183) 0⟩,
      ⟨some 187, none, .extract (.t 183) 1⟩,
      ⟨some 30, none, .mv (.t 186)⟩,
      ⟨some 31, none, .mv (.t 187)⟩])
  (.seq (.reg [⟨some 189, none, .load 1 true (.t 29)⟩,
      ⟨some 190, none, .call 16 [.lent [some 3]] [.t 189]⟩,
      ⟨some 188, none, .mv (.t 190)⟩,
      ⟨some 191, none, .extract (.t 188) 0⟩,
      ⟨some 192, none, .extract (.t 188) 1⟩,
      ⟨some 32, none, .mv (.t 191)⟩,
      ⟨some 33, none, .mv (.t 192)⟩])
  (.seq (.reg [⟨some 193, none, .mv (.t 31)⟩,
      ⟨some 194, none, .mv (.t 33)⟩,
      ⟨some 195, none, .beq false (.t 193) (.t 194)⟩,
      ⟨some 196, none, .mv (.t 195)⟩,
      ⟨some 197, some (196, true), .mv (.t 30)⟩,
      ⟨some 198, some (196, true), .mv (.t 32)⟩,
      ⟨some 199, some (196, true), .bin .eql (.t 197) (.t 198)⟩,
      ⟨some 200, none, .pick (.t 196) (.t 199) (.c (.val (.bool false)))⟩,
      ⟨some 4, none, .mv (.t 200)⟩])
  (.ret K_laws_FnHandles_0)))))))))))
def f_laws_FnHandles : IFn := ⟨2, [(.t 4, [])], [], C_laws_FnHandles⟩
/-! 9 loop.example/g00627/laws.FnExactPlayBook -/
@[simp] def K_laws_FnExactPlayBook_0 : Keep := ⟨[((4, 0), [])], [], []⟩
def C_laws_FnExactPlayBook : IC := .seq (.reg [⟨some 4, none, .mv (.c (.val (.bool false)))⟩])
  (.seq (.reg [⟨some 5, none, .mv (.c (.val (.int .i64 1048576)))⟩])
  (.seq (.reg [⟨some 19, none, .mv (.t 1)⟩,
      ⟨some 20, none, .mv (.t 5)⟩,
      ⟨some 21, none, .call 38 [.lent [some 4], .lent []] [.t 19, .t 20]⟩,
      ⟨some 5, none, .mv (.t 21)⟩])
  (.seq (.seq (.reg [⟨some 22, none, .mv (.t 5)⟩,
        ⟨some 23, none, .bin .lss (.t 22) (.c (.val (.int .i64 0)))⟩])
    (.cond (.t 23) (.seq (.reg [⟨some 4, none, .mv (.c (.val (.bool true)))⟩])
      (.ret K_laws_FnExactPlayBook_0))
    (.skip)))
  (.seq (.reg [⟨some 25, none, .mv (.t 0)⟩,
      ⟨some 26, none, .mv (.t 1)⟩,
      ⟨some 27, none, .call 39 [.lent [some 4]] [.t 26]⟩,
      ⟨some 28, none, .call 35 [.lent [], .lent [some 4]] [.t 25, .t 27]⟩,
      ⟨some 24, none, .mv (.t 28)⟩,
      ⟨some 29, none, .extract (.t 24) 0⟩,
      ⟨some 30, none, .extract (.t 24) 1⟩,
      ⟨some 31, none, .extract (.t 24) 2⟩,
      ⟨some 6, none, .alloc [.nil]⟩,
      ⟨none, none, .store [some 3] (.t 6) (.t 29)⟩,
      ⟨some 7, none, .mv (.t 30)⟩,
      ⟨some 8, none, .mv (.t 31)⟩])
  (.seq (.reg [⟨some 32, none, .mv (.t 1)⟩,
      ⟨some 33, none, .call 39 [.lent [some 4]] [.t 32]⟩,
      ⟨some 9, none, .mv (.t 33)⟩])
  (.seq (.reg [⟨some 35, none, .mv (.t 0)⟩,
      ⟨some 36, none, .mv (.t 9)⟩,
      ⟨some 37, none, .call 34 [.lent [], .row [some 4]] [.t 35, .t 36]⟩,
      ⟨some 34, none, .mv (.t 37)⟩,
      ⟨some 38, none, .extract (.t 34) 0⟩,
      ⟨some 39, none, .extract (.t 34) 1⟩,
      ⟨some 40, none, .extract (.t 34) 2⟩,
      ⟨some 10, none, .alloc [.nil]⟩,
      ⟨none, none, .store [some 3] (.t 10) (.t 38)⟩,
      ⟨some 11, none, .mv (.t 39)⟩,
      ⟨some 12, none, .mv (.t 40)⟩])
  (.seq (.seq (.reg [⟨some 41, none, .load 1 true (.t 10)⟩,
        ⟨some 42, none, .load 1 true (.t 6)⟩,
        ⟨some 43, none, .call 15 [.lent [some 3], .lent [some 3]] [.t 41, .t 42]⟩,
        ⟨some 44, none, .un .not (.t 43)⟩,
        ⟨some 45, none, .mv (.t 44)⟩,
        ⟨some 46, some (45, false), .mv (.t 11)⟩,
        ⟨some 47, some (45, false), .mv (.t 7)⟩,
        ⟨some 48, some (45, false), .call 40 [.lent [some 2], .lent [some 2]] [.t 46, .t 47]⟩,
        ⟨some 49, some (45, false), .un .not (.t 48)⟩,
        ⟨some 50, none, .pick (.t 45) (.c (.val (.bool true))) (.t 49)⟩,
        ⟨some 51, none, .mv (.t 50)⟩,
        ⟨some 52, some (51, false), .mv (.t 12)⟩,
        ⟨some 53, some (51, false), .mv (.t 8)⟩,
        ⟨some 54, some (51, false), .beq true (.t 52) (.t 53)⟩,
        ⟨some 55, none, .pick (.t 51) (.c (.val (.bool true))) (.t 54)⟩])
    (.cond (.t 55) (.seq (.reg [⟨some 4, none, .mv (.c (.val (.bool false)))⟩])
      (.ret K_laws_FnExactPlayBook_0))
    (.skip)))
  (.seq (.seq (.reg [⟨some 56, none, .mv (.t 9)⟩,
        ⟨some 57, none, .mv (.t 1)⟩,
        ⟨some 58, none, .call 39 [.lent [some 4]] [.t 57]⟩,
        ⟨some 59, none, .call 41 [.lent [some 4], .lent [some 4]] [.t 56, .t 58]⟩,
        ⟨some 60, none, .un .not (.t 59)⟩])
    (.cond (.t 60) (.seq (.reg [⟨some 4, none, .mv (.c (.val (.bool false)))⟩])
      (.ret K_laws_FnExactPlayBook_0))
    (.skip)))
  (.seq (.reg [⟨some 13, none, .mv (.c (.val (.int .i64 1)))⟩])
  (.seq (.reg [⟨some 61, none, .mv (.t 9)⟩,
      ⟨some 62, none, .mv (.t 13)⟩,
      ⟨some 63, none, .call 42 [.row [some 4], .lent []] [.t 61, .t 62]⟩,
      ⟨some 13, none, .mv (.t 63)⟩])
  (.seq (.seq (.reg [⟨some 64, none, .mv (.t 13)⟩,
        ⟨some 65, none, .bin .lss (.t 64) (.c (.val (.int .i64 0)))⟩,
        ⟨some 66, none, .mv (.t 65)⟩,
        ⟨some 67, some (66, false), .load 1 true (.t 10)⟩,
        ⟨some 68, some (66, false), .load 1 true (.t 6)⟩,
        ⟨some 69, some (66, false), .call 15 [.lent [some 3], .lent [some 3]] [.t 67, .t 68]⟩,
        ⟨some 70, some (66, false), .un .not (.t 69)⟩,
        ⟨some 71, none, .pick (.t 66) (.c (.val (.bool true))) (.t 70)⟩,
        ⟨some 72, none, .mv (.t 71)⟩,
        ⟨some 73, some (72, false), .mv (.t 11)⟩,
        ⟨some 74, some (72, false), .mv (.t 7)⟩,
        ⟨some 75, some (72, false), .call 40 [.lent [some 2], .lent [some 2]] [.t 73, .t 74]⟩,
        ⟨some 76, some (72, false), .un .not (.t 75)⟩,
        ⟨some 77, none, .pick (.t 72) (.c (.val (.bool true))) (.t 76)⟩,
        ⟨some 78, none, .mv (.t 77)⟩,
        ⟨some 79, some (78, false), .mv (.t 12)⟩,
        ⟨some 80, some (78, false), .mv (.t 8)⟩,
        ⟨some 81, some (78, false), .beq true (.t 79) (.t 80)⟩,
        ⟨some 82, none, .pick (.t 78) (.c (.val (.bool true))) (.t 81)⟩])
    (.cond (.t 82) (.seq (.reg [⟨some 4, none, .mv (.c (.val (.bool false)))⟩])
      (.ret K_laws_FnExactPlayBook_0))
    (.skip)))
  (.seq (.reg [⟨some 14, none, .mv (.c (.val (.int .i64 1)))⟩])
  (.seq (.reg [⟨some 83, none, .load 1 true (.t 10)⟩,
      ⟨some 84, none, .mv (.t 14)⟩,
      ⟨some 85, none, .call 20 [.rows [some 3], .lent []] [.t 83, .t 84]⟩,
      ⟨some 14, none, .mv (.t 85)⟩])
  (.seq (.reg [⟨some 86, none, .mv (.t 11)⟩,
      ⟨some 87, none, .mv (.t 14)⟩,
      ⟨some 88, none, .call 43 [.row [some 2], .lent []] [.t 86, .t 87]⟩,
      ⟨some 14, none, .mv (.t 88)⟩])
  (.seq (.reg [⟨some 15, none, .mv (.c (.val (.int .i64 1)))⟩])
  (.seq (.reg [⟨some 89, none, .load 1 true (.t 10)⟩,
      ⟨some 90, none, .mv (.t 15)⟩,
      ⟨some 91, none, .call 21 [.lent [some 3], .lent []] [.t 89, .t 90]⟩,
      ⟨some 15, none, .mv (.t 91)⟩])
  (.seq (.seq (.reg [⟨some 92, none, .mv (.t 15)⟩,
        ⟨some 93, none, .bin .lss (.t 92) (.c (.val (.int .i64 0)))⟩])
    (.cond (.t 93) (.seq (.reg [⟨some 4, none, .mv (.c (.val (.bool false)))⟩])
      (.ret K_laws_FnExactPlayBook_0))
    (.skip)))
  (.seq (.reg [⟨some 94, none, .mv (.t 11)⟩,
      ⟨some 95, none, .mv (.t 15)⟩,
      ⟨some 96, none, .call 44 [.lent [some 2], .lent []] [.t 94, .t 95]⟩,
      ⟨some 15, none, .mv (.t 96)⟩])
  (.seq (.seq (.reg [⟨some 97, none, .mv (.t 15)⟩,
        ⟨some 98, none, .bin .lss (.t 97) (.c (.val (.int .i64 0)))⟩])
    (.cond (.t 98) (.seq (.reg [⟨some 4, none, .mv (.c (.val (.bool false)))⟩])
      (.ret K_laws_FnExactPlayBook_0))
    (.skip)))
  (.seq (.seq (.reg [⟨some 99, none, .mv (.t 15)⟩,
        ⟨some 100, none, .mv (.t 14)⟩,
        ⟨some 101, none, .bin .neq (.t 99) (.t 100)⟩])
    (.cond (.t 101) (.seq (.reg [⟨some 4, none, .mv (.c (.val (.bool false)))⟩])
      (.ret K_laws_FnExactPlayBook_0))
    (.skip)))
  (.seq (.reg [⟨some 103, none, .mv (.t 0)⟩,
      ⟨some 104, none, .mv (.t 1)⟩,
      ⟨some 105, none, .call 39 [.lent [some 4]] [.t 104]⟩,
      ⟨some 106, none, .call 34 [.lent [], .row [some 4]] [.t 103, .t 105]⟩,
      ⟨some 102, none, .mv (.t 106)⟩,
      ⟨some 107, none, .extract (.t 102) 0⟩,
      ⟨some 108, none, .extract (.t 102) 1⟩,
      ⟨some 109, none, .extract (.t 102) 2⟩,
      ⟨some 16, none, .alloc [.nil]⟩,
      ⟨none, none, .store [some 3] (.t 16) (.t 107)⟩,
      ⟨some 17, none, .mv (.t 108)⟩,
      ⟨some 18, none, .mv (.t 109)⟩])
  (.seq (.seq (.reg [⟨some 110, none, .load 1 true (.t 16)⟩,
        ⟨some 111, none, .load 1 true (.t 6)⟩,
        ⟨some 112, none, .call 15 [.lent [some 3], .lent [some 3]] [.t 110, .t 111]⟩,
        ⟨some 113, none, .un .not (.t 112)⟩,
        ⟨some 114, none, .mv (.t 113)⟩,
        ⟨some 115, some (114, false), .mv (.t 17)⟩,
        ⟨some 116, some (114, false), .mv (.t 7)⟩,
        ⟨some 117, some (114, false), .call 40 [.lent [some 2], .lent [some 2]] [.t 115, .t 116]⟩,
        ⟨some 118, some (114, false), .un .not (.t 117)⟩,
        ⟨some 119, none, .pick (.t 114) (.c (.val (.bool true))) (.t 118)⟩,
        ⟨some 120, none, .mv (.t 119)⟩,
        ⟨some 121, some (120, false), .mv (.t 18)⟩,
        ⟨some 122, some (120, false), .mv (.t 8)⟩,
        ⟨some 123, some (120, false), .beq true (.t 121) (.t 122)⟩,
        ⟨some 124, none, .pick (.t 120) (.c (.val (.bool true))) (.t 123)⟩])
    (.cond (.t 124) (.seq (.reg [⟨some 4, none, .mv (.c (.val (.bool false)))⟩])
      (.ret K_laws_FnExactPlayBook_0))
    (.skip)))
  (.seq (.reg [⟨some 15, none, .mv (.c (.val (.int .i64 1)))⟩])
  (.seq (.reg [⟨some 125, none, .load 1 true (.t 10)⟩,
      ⟨some 126, none, .mv (.t 15)⟩,
      ⟨some 127, none, .call 21 [.lent [some 3], .lent []] [.t 125, .t 126]⟩,
      ⟨some 15, none, .mv (.t 127)⟩])
  (.seq (.seq (.reg [⟨some 128, none, .mv (.t 15)⟩,
        ⟨some 129, none, .bin .lss (.t 128) (.c (.val (.int .i64 0)))⟩])
    (.cond (.t 129) (.seq (.reg [⟨some 4, none, .mv (.c (.val (.bool false)))⟩])
      (.ret K_laws_FnExactPlayBook_0))
    (.skip)))
  (.seq (.reg [⟨some 130, none, .mv (.t 11)⟩,
      ⟨some 131, none, .mv (.t 15)⟩,
      ⟨some 132, none, .call 44 [.lent [some 2], .lent []] [.t 130, .t 131]⟩,
      ⟨some 15, none, .mv (.t 132)⟩])
  (.seq (.seq (.reg [⟨some 133, none, .mv (.t 15)⟩,
        ⟨some 134, none, .bin .lss (.t 133) (.c (.val (.int .i64 0)))⟩])
    (.cond (.t 134) (.seq (.reg [⟨some 4, none, .mv (.c (.val (.bool false)))⟩])
      (.ret K_laws_FnExactPlayBook_0))
    (.skip)))
  (.seq (.seq (.reg [⟨some 135, none, .mv (.t 15)⟩,
        ⟨some 136, none, .mv (.t 14)⟩,
        ⟨some 137, none, .bin .neq (.t 135) (.t 136)⟩])
    (.cond (.t 137) (.seq (.reg [⟨some 4, none, .mv (.c (.val (.bool false)))⟩])
      (.ret K_laws_FnExactPlayBook_0))
    (.skip)))
  (.seq (.reg [⟨some 4, none, .mv (.c (.val (.bool true)))⟩])
  (.ret K_laws_FnExactPlayBook_0))))))))))))))))))))))))))))))
def f_laws_FnExactPlayBook : IFn := ⟨2, [(.t 4, [])], [], C_laws_FnExactPlayBook⟩
/-! 10 loop.example/g00627/laws.szBook -/
@[simp] def K_laws_szBook_0 : Keep := ⟨[((4, 0), [])], [], []⟩
def C_laws_szBook : IC := .seq (.reg [⟨some 2, none, .box 1 (.t 0)⟩,
      ⟨some 4, none, .mv (.c (.val (.int .i64 0)))⟩])
  (.seq (.reg [⟨some 5, none, .faddr (.t 2) 0⟩,
      ⟨some 6, none, .load 1 false (.t 5)⟩,
      ⟨some 7, none, .mv (.t 1)⟩,
      ⟨some 8, none, .call 45 [.lent [some 3], .lent []] [.t 6, .t 7]⟩,
      ⟨some 1, none, .mv (.t 8)⟩])
  (.seq (.seq (.reg [⟨some 9, none, .mv (.t 1)⟩,
        ⟨some 10, none, .bin .lss (.t 9) (.c (.val (.int .i64 0)))⟩])
    (.cond (.t 10) (.seq (.reg [⟨some 4, none, .mv (.c (.val (.int .i64 (-1))))⟩])
      (.ret K_laws_szBook_0))
    (.skip)))
  (.seq (.reg [⟨some 11, none, .mv (.t 1)⟩,
      ⟨some 4, none, .mv (.t 11)⟩])
  (.ret K_laws_szBook_0))))
def f_laws_szBook : IFn := ⟨2, [(.t 4, [])], [], C_laws_szBook⟩
/-! 11 loop.example/g00627/spec.ValueOf -/
@[simp] def K_spec_ValueOf_0 : Keep := ⟨[((4, 0), []), ((5, 0), [])], [], []⟩
def C_spec_ValueOf : IC := .seq (.reg [⟨some 2, none, .box 1 (.t 0)⟩,
      ⟨some 3, none, .box 2 (.t 1)⟩,
      ⟨some 4, none, .mv (.c (.val (.int .i64 0)))⟩,
      ⟨some 5, none, .mv (.c (.val (.bool false)))⟩])
  (.seq (.seq (.reg [⟨some 6, none, .load 1 true (.t 2)⟩,
        ⟨some 7, none, .load 2 true (.t 3)⟩,
        ⟨some 8, none, .call 46 [.lent [some 3], .lent []] [.t 6, .t 7]⟩,
        ⟨some 9, none, .un .not (.t 8)⟩])
    (.cond (.t 9) (.seq (.reg [⟨some 4, none, .mv (.c (.val (.int .i64 0)))⟩,
          ⟨some 5, none, .mv (.c (.val (.bool false)))⟩])
      (.ret K_spec_ValueOf_0))
    (.skip)))
  (.seq (.reg [⟨some 10, none, .faddr (.t 2) 0⟩,
      ⟨some 11, none, .load 1 false (.t 10)⟩,
      ⟨some 12, none, .faddr (.t 3) 0⟩,
      ⟨some 13, none, .load 1 false (.t 12)⟩,
      ⟨some 14, none, .iaddr 3 (.t 11) (.t 13)⟩,
      ⟨some 15, none, .faddr (.t 14) 2⟩,
      ⟨some 16, none, .load 1 false (.t 15)⟩,
      ⟨some 4, none, .mv (.t 16)⟩,
      ⟨some 5, none, .mv (.c (.val (.bool true)))⟩])
  (.ret K_spec_ValueOf_0)))
def f_spec_ValueOf : IFn := ⟨2, [(.t 4, []), (.t 5, [])], [], C_spec_ValueOf⟩
/-! 12 loop.example/g00627/laws.toBook -/
@[simp] def K_laws_toBook_0 : Keep := ⟨[((2, 0), []), ((2, 1), [some 3])], [2], []⟩
def C_laws_toBook : IC := .seq (.reg [⟨some 1, none, .box 1 (.t 0)⟩,
      ⟨some 2, none, .alloc [.nil]⟩])
  (.seq (.reg [⟨some 3, none, .alloc [.nil]⟩])
  (.seq (.reg [⟨some 4, none, .faddr (.t 1) 0⟩,
      ⟨some 5, none, .load 1 false (.t 4)⟩,
      ⟨some 6, none, .call 47 [.lent [some 3]] [.t 5]⟩,
      ⟨some 7, none, .faddr (.t 3) 0⟩,
      ⟨none, none, .store [some 3] (.t 7) (.t 6)⟩])
  (.seq (.reg [⟨some 8, none, .load 1 true (.t 3)⟩,
      ⟨none, none, .store [some 3] (.t 2) (.t 8)⟩])
  (.ret K_laws_toBook_0))))
def f_laws_toBook : IFn := ⟨1, [(.cell 2 1 true, [some 3])], [], C_laws_toBook⟩
/-! 13 loop.example/g00627/laws.toHandle -/
@[simp] def K_laws_toHandle_0 : Keep := ⟨[((2, 0), []), ((2, 1), []), ((2, 2), [])], [2], []⟩
def C_laws_toHandle : IC := .seq (.reg [⟨some 1, none, .box 2 (.t 0)⟩,
      ⟨some 2, none, .alloc [.val (.int .i64 0), .val (.int .i64 0)]⟩])
  (.seq (.reg [⟨some 3, none, .alloc [.val (.int .i64 0), .val (.int .i64 0)]⟩])
  (.seq (.reg [⟨some 4, none, .faddr (.t 1) 0⟩,
      ⟨some 5, none, .load 1 false (.t 4)⟩,
      ⟨some 6, none, .faddr (.t 3) 0⟩,
      ⟨none, none, .store [none] (.t 6) (.t 5)⟩])
  (.seq (.reg [⟨some 7, none, .faddr (.t 1) 1⟩,
      ⟨some 8, none, .load 1 false (.t 7)⟩,
      ⟨some 9, none, .faddr (.t 3) 1⟩,
      ⟨none, none, .store [none] (.t 9) (.t 8)⟩])
  (.seq (.reg [⟨some 10, none, .load 2 true (.t 3)⟩,
      ⟨none, none, .store [none, none] (.t 2) (.t 10)⟩])
  (.ret K_laws_toHandle_0)))))
def f_laws_toHandle : IFn := ⟨1, [(.cell 2 2 true, [])], [], C_laws_toHandle⟩
/-! 14 loop.example/g00627/impl.ValueOf -/
@[simp] def K_impl_ValueOf_0 : Keep := ⟨[((4, 0), []), ((5, 0), [])], [], []⟩
def C_impl_ValueOf : IC := .seq (.reg [⟨some 2, none, .box 1 (.t 0)⟩,
      ⟨some 3, none, .box 2 (.t 1)⟩,
      ⟨some 4, none, .mv (.c (.val (.int .i64 0)))⟩,
      ⟨some 5, none, .mv (.c (.val (.bool false)))⟩])
  (.seq (.seq (.reg [⟨some 6, none, .load 1 true (.t 2)⟩,
        ⟨some 7, none, .call 48 [.lent [some 3]] [.t 6]⟩,
        ⟨some 8, none, .un .not (.t 7)⟩,
        ⟨some 9, none, .mv (.t 8)⟩,
        ⟨some 10, some (9, false), .load 1 true (.t 2)⟩,
        ⟨some 11, some (9, false), .load 2 true (.t 3)⟩,
        ⟨some 12, some (9, false), .call 49 [.lent [some 3], .lent []] [.t 10, .t 11]⟩,
        ⟨some 13, some (9, false), .un .not (.t 12)⟩,
        ⟨some 14, none, .pick (.t 9) (.c (.val (.bool true))) (.t 13)⟩])
    (.cond (.t 14) (.seq (.reg [⟨some 4, none, .mv (.c (.val (.int .i64 0)))⟩,
          ⟨some 5, none, .mv (.c (.val (.bool false)))⟩])
      (.ret K_impl_ValueOf_0))
    (.skip)))
  (.seq (.reg [⟨some 15, none, .faddr (.t 2) 0⟩,
      ⟨some 16, none, .load 1 false (.t 15)⟩,
      ⟨some 17, none, .faddr (.t 3) 0⟩,
      ⟨some 18, none, .load 1 false (.t 17)⟩,
      ⟨some 19, none, .iaddr 3 (.t 16) (.t 18)⟩,
      ⟨some 20, none, .faddr (.t 19) 2⟩,
      ⟨some 21, none, .load 1 false (.t 20)⟩,
      ⟨some 4, none, .mv (.t 21)⟩,
      ⟨some 5, none, .mv (.c (.val (.bool true)))⟩])
  (.ret K_impl_ValueOf_0)))
def f_impl_ValueOf : IFn := ⟨2, [(.t 4, []), (.t 5, [])], [], C_impl_ValueOf⟩
/-! 15 loop.example/g00627/laws.eqBook -/
@[simp] def K_laws_eqBook_0 : Keep := ⟨[((4, 0), [])], [], []⟩
def C_laws_eqBook : IC := .seq (.reg [⟨some 2, none, .box 1 (.t 0)⟩,
      ⟨some 3, none, .box 1 (.t 1)⟩,
      ⟨some 4, none, .mv (.c (.val (.bool false)))⟩])
  (.seq (.seq (.reg [⟨some 5, none, .faddr (.t 2) 0⟩,
        ⟨some 6, none, .load 1 false (.t 5)⟩,
        ⟨some 7, none, .faddr (.t 3) 0⟩,
        ⟨some 8, none, .load 1 false (.t 7)⟩,
        ⟨some 9, none, .call 50 [.lent [some 3], .lent [some 3]] [.t 6, .t 8]⟩,
        ⟨some 10, none, .un .not (.t 9)⟩])
    (.cond (.t 10) (.seq (.reg [⟨some 4, none, .mv (.c (.val (.bool false)))⟩])
      (.ret K_laws_eqBook_0))
    (.skip)))
  (.seq (.reg [⟨some 4, none, .mv (.c (.val (.bool true)))⟩])
  (.ret K_laws_eqBook_0)))
def f_laws_eqBook : IFn := ⟨2, [(.t 4, [])], [], C_laws_eqBook⟩
/-! 16 loop.example/g00627/spec.LeftFor -/
@[simp] def K_spec_LeftFor_0 : Keep := ⟨[((2, 0), []), ((3, 0), [])], [], []⟩
@[simp] def K_spec_LeftFor_1 : Keep := ⟨[((4, 0), [])], [], []⟩
def B_spec_LeftFor_5 : IC := .seq (.reg [⟨some 14, none, .bin .lss (.t 13) (.t 12)⟩])
  (.seq (.cond (.t 14) (.skip)
    (.exit 0 K_spec_LeftFor_1))
  (.seq (.block 1 (.seq (.reg [⟨some 15, none, .iaddr 3 (.t 11) (.t 13)⟩,
        ⟨some 16, none, .load 3 true (.t 15)⟩,
        ⟨some 6, none, .alloc [.val (.int .i64 0), .val (.bool false), .val (.int .i64 0)]⟩,
        ⟨none, none, .store [none, none, none] (.t 6) (.t 16)⟩])
    (.seq (.reg [⟨some 17, none, .mv (.t 4)⟩,
        ⟨some 18, none, .faddr (.t 6) 0⟩,
        ⟨some 19, none, .load 1 false (.t 18)⟩,
        ⟨some 20, none, .bin .sub (.c (.val (.int .i64 8))) (.t 19)⟩,
        ⟨some 21, none, .bin .add (.t 17) (.t 20)⟩,
        ⟨some 4, none, .mv (.t 21)⟩])
    (.seq (.reg [⟨some 22, none, .faddr (.t 6) 1⟩,
        ⟨some 23, none, .load 1 false (.t 22)⟩])
    (.cond (.t 23) (.reg [⟨some 24, none, .mv (.t 4)⟩,
        ⟨some 25, none, .bin .sub (.t 24) (.c (.val (.int .i64 1)))⟩,
        ⟨some 4, none, .mv (.t 25)⟩])
    (.skip))))))
  (.reg [⟨some 26, none, .bin .add (.t 13) (.c (.val (.int .i64 1)))⟩,
    ⟨some 13, none, .mv (.t 26)⟩])))
@[simp] def K_spec_LeftFor_2 : Keep := ⟨[((4, 0), []), ((11, 0), [some 3]), ((12, 0), []), ((13, 0), [])], [], []⟩
def L_spec_LeftFor_5 : IC := .loop K_spec_LeftFor_2 B_spec_LeftFor_5
def C_spec_LeftFor : IC := .seq (.reg [⟨some 1, none, .box 1 (.t 0)⟩,
      ⟨some 2, none, .mv (.c (.val (.int .i64 0)))⟩,
      ⟨some 3, none, .mv (.c (.val (.bool false)))⟩])
  (.seq (.seq (.reg [⟨some 7, none, .load 1 true (.t 1)⟩,
        ⟨some 8, none, .call 28 [.lent [some 3]] [.t 7]⟩,
        ⟨some 9, none, .un .not (.t 8)⟩])
    (.cond (.t 9) (.seq (.reg [⟨some 2, none, .mv (.c (.val (.int .i64 0)))⟩,
          ⟨some 3, none, .mv (.c (.val (.bool false)))⟩])
      (.ret K_spec_LeftFor_0))
    (.skip)))
  (.seq (.reg [⟨some 4, none, .mv (.c (.val (.int .i64 0)))⟩])
  (.seq (.seq (.reg [⟨some 10, none, .faddr (.t 1) 0⟩,
        ⟨some 11, none, .load 1 false (.t 10)⟩,
        ⟨some 12, none, .len (.t 11)⟩,
        ⟨some 13, none, .mv (.c (.val (.int .i64 0)))⟩])
    (.block 0 (L_spec_LeftFor_5)))
  (.seq (.reg [⟨some 27, none, .mv (.t 4)⟩,
      ⟨some 2, none, .mv (.t 27)⟩,
      ⟨some 3, none, .mv (.c (.val (.bool true)))⟩])
  (.ret K_spec_LeftFor_0)))))
def f_spec_LeftFor : IFn := ⟨1, [(.t 2, []), (.t 3, [])], [], C_spec_LeftFor⟩
/-! 17 loop.example/g00627/impl.LeftFor -/
@[simp] def K_impl_LeftFor_0 : Keep := ⟨[((2, 0), []), ((3, 0), [])], [], []⟩
@[simp] def K_impl_LeftFor_1 : Keep := ⟨[((4, 0), [])], [], []⟩
def B_impl_LeftFor_5 : IC := .seq (.reg [⟨some 14, none, .bin .lss (.t 13) (.t 12)⟩])
  (.seq (.cond (.t 14) (.skip)
    (.exit 0 K_impl_LeftFor_1))
  (.seq (.block 1 (.seq (.reg [⟨some 15, none, .iaddr 3 (.t 11) (.t 13)⟩,
        ⟨some 16, none, .load 3 true (.t 15)⟩,
        ⟨some 6, none, .alloc [.val (.int .i64 0), .val (.bool false), .val (.int .i64 0)]⟩,
        ⟨none, none, .store [none, none, none] (.t 6) (.t 16)⟩])
    (.seq (.reg [⟨some 17, none, .mv (.t 4)⟩,
        ⟨some 18, none, .faddr (.t 6) 0⟩,
        ⟨some 19, none, .load 1 false (.t 18)⟩,
        ⟨some 20, none, .bin .sub (.c (.val (.int .i64 8))) (.t 19)⟩,
        ⟨some 21, none, .bin .add (.t 17) (.t 20)⟩,
        ⟨some 4, none, .mv (.t 21)⟩])
    (.seq (.reg [⟨some 22, none, .faddr (.t 6) 1⟩,
        ⟨some 23, none, .load 1 false (.t 22)⟩])
    (.cond (.t 23) (.reg [⟨some 24, none, .mv (.t 4)⟩,
        ⟨some 25, none, .bin .sub (.t 24) (.c (.val (.int .i64 1)))⟩,
        ⟨some 4, none, .mv (.t 25)⟩])
    (.skip))))))
  (.reg [⟨some 26, none, .bin .add (.t 13) (.c (.val (.int .i64 1)))⟩,
    ⟨some 13, none, .mv (.t 26)⟩])))
@[simp] def K_impl_LeftFor_2 : Keep := ⟨[((4, 0), []), ((11, 0), [some 3]), ((12, 0), []), ((13, 0), [])], [], []⟩
def L_impl_LeftFor_5 : IC := .loop K_impl_LeftFor_2 B_impl_LeftFor_5
def C_impl_LeftFor : IC := .seq (.reg [⟨some 1, none, .box 1 (.t 0)⟩,
      ⟨some 2, none, .mv (.c (.val (.int .i64 0)))⟩,
      ⟨some 3, none, .mv (.c (.val (.bool false)))⟩])
  (.seq (.seq (.reg [⟨some 7, none, .load 1 true (.t 1)⟩,
        ⟨some 8, none, .call 48 [.lent [some 3]] [.t 7]⟩,
        ⟨some 9, none, .un .not (.t 8)⟩])
    (.cond (.t 9) (.seq (.reg [⟨some 2, none, .mv (.c (.val (.int .i64 0)))⟩,
          ⟨some 3, none, .mv (.c (.val (.bool false)))⟩])
      (.ret K_impl_LeftFor_0))
    (.skip)))
  (.seq (.reg [⟨some 4, none, .mv (.c (.val (.int .i64 0)))⟩])
  (.seq (.seq (.reg [⟨some 10, none, .faddr (.t 1) 0⟩,
        ⟨some 11, none, .load 1 false (.t 10)⟩,
        ⟨some 12, none, .len (.t 11)⟩,
        ⟨some 13, none, .mv (.c (.val (.int .i64 0)))⟩])
    (.block 0 (L_impl_LeftFor_5)))
  (.seq (.reg [⟨some 27, none, .mv (.t 4)⟩,
      ⟨some 2, none, .mv (.t 27)⟩,
      ⟨some 3, none, .mv (.c (.val (.bool true)))⟩])
  (.ret K_impl_LeftFor_0)))))
def f_impl_LeftFor : IFn := ⟨1, [(.t 2, []), (.t 3, [])], [], C_impl_LeftFor⟩
/-! 18 loop.example/g00627/spec.FreeHandle -/
@[simp] def K_spec_FreeHandle_0 : Keep := ⟨[((4, 0), []), ((5, 0), []), ((4, 1), [some 3])], [4], []⟩
def C_spec_FreeHandle : IC := .seq (.reg [⟨some 2, none, .box 1 (.t 0)⟩,
      ⟨some 3, none, .box 2 (.t 1)⟩,
      ⟨some 4, none, .alloc [.nil]⟩,
      ⟨some 5, none, .mv (.c (.val (.bool false)))⟩])
  (.seq (.seq (.reg [⟨some 7, none, .load 1 true (.t 2)⟩,
        ⟨some 8, none, .load 2 true (.t 3)⟩,
        ⟨some 9, none, .call 46 [.lent [some 3], .lent []] [.t 7, .t 8]⟩,
        ⟨some 10, none, .un .not (.t 9)⟩])
    (.cond (.t 10) (.seq (.reg [⟨some 11, none, .build [.nil] []⟩,
          ⟨none, none, .store [some 3] (.t 4) (.t 11)⟩,
          ⟨some 5, none, .mv (.c (.val (.bool false)))⟩])
      (.ret K_spec_FreeHandle_0))
    (.skip)))
  (.seq (.reg [⟨some 12, none, .load 1 true (.t 2)⟩,
      ⟨some 13, none, .call 51 [.lent [some 3]] [.t 12]⟩,
      ⟨some 6, none, .alloc [.nil]⟩,
      ⟨none, none, .store [some 3] (.t 6) (.t 13)⟩])
  (.seq (.reg [⟨some 14, none, .faddr (.t 6) 0⟩,
      ⟨some 15, none, .load 1 false (.t 14)⟩,
      ⟨some 16, none, .faddr (.t 3) 0⟩,
      ⟨some 17, none, .load 1 false (.t 16)⟩,
      ⟨some 18, none, .faddr (.t 3) 1⟩,
      ⟨some 19, none, .load 1 false (.t 18)⟩,
      ⟨some 20, none, .bin .add (.t 19) (.c (.val (.int .i64 1)))⟩,
      ⟨some 21, none, .build [.val (.int .i64 0), .val (.bool false), .val (.int .i64 0)] [(0, 1, .t 20)]⟩,
      ⟨some 22, none, .iaddr 3 (.t 15) (.t 17)⟩,
      ⟨none, none, .store [none, none, none] (.t 22) (.t 21)⟩])
  (.seq (.reg [⟨some 23, none, .load 1 true (.t 6)⟩,
      ⟨none, none, .store [some 3] (.t 4) (.t 23)⟩,
      ⟨some 5, none, .mv (.c (.val (.bool true)))⟩])
  (.ret K_spec_FreeHandle_0)))))
def f_spec_FreeHandle : IFn := ⟨2, [(.cell 4 1 true, [some 3]), (.t 5, [])], [], C_spec_FreeHandle⟩
/-! 19 loop.example/g00627/impl.FreeHandle -/
@[simp] def K_impl_FreeHandle_0 : Keep := ⟨[((4, 0), []), ((5, 0), []), ((4, 1), [some 3])], [4], []⟩
def C_impl_FreeHandle : IC := .seq (.reg [⟨some 2, none, .box 1 (.t 0)⟩,
      ⟨some 3, none, .box 2 (.t 1)⟩,
      ⟨some 4, none, .alloc [.nil]⟩,
      ⟨some 5, none, .mv (.c (.val (.bool false)))⟩])
  (.seq (.seq (.reg [⟨some 7, none, .load 1 true (.t 2)⟩,
        ⟨some 8, none, .call 48 [.lent [some 3]] [.t 7]⟩,
        ⟨some 9, none, .un .not (.t 8)⟩,
        ⟨some 10, none, .mv (.t 9)⟩,
        ⟨some 11, some (10, false), .load 1 true (.t 2)⟩,
        ⟨some 12, some (10, false), .load 2 true (.t 3)⟩,
        ⟨some 13, some (10, false), .call 49 [.lent [some 3], .lent []] [.t 11, .t 12]⟩,
        ⟨some 14, some (10, false), .un .not (.t 13)⟩,
        ⟨some 15, none, .pick (.t 10) (.c (.val (.bool true))) (.t 14)⟩])
    (.cond (.t 15) (.seq (.reg [⟨some 16, none, .build [.nil] []⟩,
          ⟨none, none, .store [some 3] (.t 4) (.t 16)⟩,
          ⟨some 5, none, .mv (.c (.val (.bool false)))⟩])
      (.ret K_impl_FreeHandle_0))
    (.skip)))
  (.seq (.reg [⟨some 17, none, .faddr (.t 2) 0⟩,
      ⟨some 18, none, .load 1 false (.t 17)⟩,
      ⟨some 19, none, .call 52 [.lent []] [.t 18]⟩,
      ⟨some 20, none, .build [.nil] [(0, 1, .t 19)]⟩,
      ⟨some 6, none, .alloc [.nil]⟩,
      ⟨none, none, .store [some 3] (.t 6) (.t 20)⟩])
  (.seq (.reg [⟨some 21, none, .faddr (.t 6) 0⟩,
      ⟨some 22, none, .load 1 false (.t 21)⟩,
      ⟨some 23, none, .faddr (.t 3) 0⟩,
      ⟨some 24, none, .load 1 false (.t 23)⟩,
      ⟨some 25, none, .faddr (.t 3) 1⟩,
      ⟨some 26, none, .load 1 false (.t 25)⟩,
      ⟨some 27, none, .bin .add (.t 26) (.c (.val (.int .i64 1)))⟩,
      ⟨some 28, none, .build [.val (.int .i64 0), .val (.bool false), .val (.int .i64 0)] [(0, 1, .t 27)]⟩,
      ⟨some 29, none, .iaddr 3 (.t 22) (.t 24)⟩,
      ⟨none, none, .store [none, none, none] (.t 29) (.t 28)⟩])
  (.seq (.reg [⟨some 30, none, .load 1 true (.t 6)⟩,
      ⟨none, none, .store [some 3] (.t 4) (.t 30)⟩,
      ⟨some 5, none, .mv (.c (.val (.bool true)))⟩])
  (.ret K_impl_FreeHandle_0)))))
def f_impl_FreeHandle : IFn := ⟨2, [(.cell 4 1 true, [some 3]), (.t 5, [])], [], C_impl_FreeHandle⟩
/-! 20 loop.example/g00627/laws.markBook -/
@[simp] def K_laws_markBook_0 : Keep := ⟨[((0, 0), [some 3]), ((4, 0), [])], [], [(0, 0)]⟩
def C_laws_markBook : IC := .seq (.reg [⟨some 2, none, .box 1 (.t 0)⟩,
      ⟨some 4, none, .mv (.c (.val (.int .i64 0)))⟩])
  (.seq (.reg [⟨some 5, none, .faddr (.t 2) 0⟩,
      ⟨some 6, none, .load 1 false (.t 5)⟩,
      ⟨some 7, none, .mv (.t 1)⟩,
      ⟨some 8, none, .call 53 [.row [some 3], .lent []] [.t 6, .t 7]⟩,
      ⟨some 1, none, .mv (.t 8)⟩])
  (.seq (.reg [⟨some 9, none, .mv (.t 1)⟩,
      ⟨some 4, none, .mv (.t 9)⟩])
  (.ret K_laws_markBook_0)))
def f_laws_markBook : IFn := ⟨2, [(.t 4, [])], [(0, .rows [some 3])], C_laws_markBook⟩
/-! 21 loop.example/g00627/laws.heldBook -/
@[simp] def K_laws_heldBook_0 : Keep := ⟨[((4, 0), [])], [], []⟩
def C_laws_heldBook : IC := .seq (.reg [⟨some 2, none, .box 1 (.t 0)⟩,
      ⟨some 4, none, .mv (.c (.val (.int .i64 0)))⟩])
  (.seq (.reg [⟨some 5, none, .faddr (.t 2) 0⟩,
      ⟨some 6, none, .load 1 false (.t 5)⟩,
      ⟨some 7, none, .mv (.t 1)⟩,
      ⟨some 8, none, .call 54 [.lent [some 3], .lent []] [.t 6, .t 7]⟩,
      ⟨some 1, none, .mv (.t 8)⟩])
  (.seq (.seq (.reg [⟨some 9, none, .mv (.t 1)⟩,
        ⟨some 10, none, .bin .lss (.t 9) (.c (.val (.int .i64 0)))⟩])
    (.cond (.t 10) (.seq (.reg [⟨some 4, none, .mv (.c (.val (.int .i64 (-1))))⟩])
      (.ret K_laws_heldBook_0))
    (.skip)))
  (.seq (.reg [⟨some 11, none, .mv (.t 1)⟩,
      ⟨some 4, none, .mv (.t 11)⟩])
  (.ret K_laws_heldBook_0))))
def f_laws_heldBook : IFn := ⟨2, [(.t 4, [])], [], C_laws_heldBook⟩
/-! 22 loop.example/g00627/spec.NewHandle -/
@[simp] def K_spec_NewHandle_0 : Keep := ⟨[((4, 0), []), ((5, 0), []), ((6, 0), []), ((4, 1), [some 3]), ((5, 1), []), ((5, 2), [])], [4, 5], []⟩
@[simp] def K_spec_NewHandle_1 : Keep := ⟨[((1, 0), []), ((2, 0), []), ((4, 0), []), ((5, 0), []), ((7, 0), []), ((2, 1), [some 3]), ((4, 1), [some 3]), ((5, 1), []), ((5, 2), [])], [2, 4, 5], []⟩
def B_spec_NewHandle_5 : IC := .seq (.reg [⟨some 25, none, .bin .lss (.t 24) (.t 23)⟩])
  (.seq (.cond (.t 25) (.skip)
    (.exit 0 K_spec_NewHandle_1))
  (.seq (.block 1 (.seq (.reg [⟨some 26, none, .mv (.t 24)⟩,
        ⟨some 27, none, .iaddr 3 (.t 22) (.t 24)⟩,
        ⟨some 28, none, .load 3 true (.t 27)⟩,
        ⟨some 9, none, .alloc [.val (.int .i64 0), .val (.bool false), .val (.int .i64 0)]⟩,
        ⟨some 8, none, .mv (.t 26)⟩,
        ⟨none, none, .store [none, none, none] (.t 9) (.t 28)⟩])
    (.seq (.dreg [⟨⟨some 29, none, .faddr (.t 9) 1⟩, 0, [], []⟩,
        ⟨⟨some 30, none, .load 1 false (.t 29)⟩, 1, [], []⟩,
        ⟨⟨some 31, none, .un .not (.t 30)⟩, 2, [], []⟩,
        ⟨⟨some 32, none, .mv (.t 31)⟩, 3, [], []⟩,
        ⟨⟨some 33, some (32, true), .faddr (.t 9) 0⟩, 4, [], []⟩,
        ⟨⟨some 34, some (32, true), .load 1 false (.t 33)⟩, 5, [], []⟩,
        ⟨⟨some 35, some (32, true), .bin .lss (.t 34) (.c (.val (.int .i64 8)))⟩, 6, [], []⟩,
        ⟨⟨some 36, none, .pick (.t 32) (.t 35) (.c (.val (.bool false)))⟩, 7, [], []⟩,
        ⟨⟨some 37, none, .mv (.t 36)⟩, 8, [], []⟩,
        ⟨⟨some 38, some (37, true), .mv (.t 7)⟩, 9, [], []⟩,
        ⟨⟨some 39, some (37, true), .bin .lss (.t 38) (.c (.val (.int .i64 0)))⟩, 10, [], []⟩,
        ⟨⟨some 40, some (37, true), .mv (.t 39)⟩, 11, [], []⟩,
        ⟨⟨some 41, some (40, false), .faddr (.t 9) 0⟩, 12, [], []⟩,
        ⟨⟨some 42, some (40, false), .load 1 false (.t 41)⟩, 13, [], []⟩,
        ⟨⟨some 43, some (40, false), .faddr (.t 2) 0⟩, 14, [], []⟩,
        ⟨⟨some 44, some (40, false), .load 1 false (.t 43)⟩, 15, [], []⟩,
        ⟨⟨some 45, some (40, false), .mv (.t 7)⟩, 16, [], []⟩,
        ⟨⟨some 46, some (40, false), .iaddr 3 (.t 44) (.t 45)⟩, 17, [], []⟩,
        ⟨⟨some 47, some (40, false), .faddr (.t 46) 0⟩, 18, [], []⟩,
        ⟨⟨some 48, some (40, false), .load 1 false (.t 47)⟩, 19, [], []⟩,
        ⟨⟨some 49, some (40, false), .bin .lss (.t 42) (.t 48)⟩, 20, [], []⟩,
        ⟨⟨some 50, some (37, true), .pick (.t 40) (.c (.val (.bool true))) (.t 49)⟩, 21, [], []⟩,
        ⟨⟨some 51, none, .pick (.t 37) (.t 50) (.c (.val (.bool false)))⟩, 22, [], []⟩])
    (.cond (.t 51) (.reg [⟨some 52, none, .mv (.t 8)⟩,
        ⟨some 7, none, .mv (.t 52)⟩])
    (.skip)))))
  (.reg [⟨some 53, none, .bin .add (.t 24) (.c (.val (.int .i64 1)))⟩,
    ⟨some 24, none, .mv (.t 53)⟩])))
@[simp] def K_spec_NewHandle_2 : Keep := ⟨[((1, 0), []), ((2, 0), []), ((4, 0), []), ((5, 0), []), ((7, 0), []), ((22, 0), [some 3]), ((23, 0), []), ((24, 0), []), ((2, 1), [some 3]), ((4, 1), [some 3]), ((5, 1), []), ((5, 2), [])], [2, 4, 5], []⟩
def L_spec_NewHandle_5 : IC := .loop K_spec_NewHandle_2 B_spec_NewHandle_5
def C_spec_NewHandle : IC := .seq (.reg [⟨some 2, none, .box 1 (.t 0)⟩,
      ⟨some 4, none, .alloc [.nil]⟩,
      ⟨some 5, none, .alloc [.val (.int .i64 0), .val (.int .i64 0)]⟩,
      ⟨some 6, none, .mv (.c (.val (.bool false)))⟩])
  (.seq (.seq (.reg [⟨some 11, none, .load 1 true (.t 2)⟩,
        ⟨some 12, none, .call 28 [.lent [some 3]] [.t 11]⟩,
        ⟨some 13, none, .un .not (.t 12)⟩,
        ⟨some 14, none, .mv (.t 13)⟩,
        ⟨some 15, some (14, false), .mv (.t 1)⟩,
        ⟨some 16, some (14, false), .call 55 [.lent [], .lent [], .lent []] [.t 15, .c (.val (.int .i64 0)), .c (.val (.int .i64 1000))]⟩,
        ⟨some 17, some (14, false), .un .not (.t 16)⟩,
        ⟨some 18, none, .pick (.t 14) (.c (.val (.bool true))) (.t 17)⟩])
    (.cond (.t 18) (.seq (.reg [⟨some 19, none, .build [.nil] []⟩,
          ⟨some 20, none, .build [.val (.int .i64 0), .val (.int .i64 0)] []⟩,
          ⟨none, none, .store [some 3] (.t 4) (.t 19)⟩,
          ⟨none, none, .store [none, none] (.t 5) (.t 20)⟩,
          ⟨some 6, none, .mv (.c (.val (.bool false)))⟩])
      (.ret K_spec_NewHandle_0))
    (.skip)))
  (.seq (.reg [⟨some 7, none, .mv (.c (.val (.int .i64 (-1))))⟩])
  (.seq (.seq (.reg [⟨some 21, none, .faddr (.t 2) 0⟩,
        ⟨some 22, none, .load 1 false (.t 21)⟩,
        ⟨some 23, none, .len (.t 22)⟩,
        ⟨some 24, none, .mv (.c (.val (.int .i64 0)))⟩])
    (.block 0 (L_spec_NewHandle_5)))
  (.seq (.seq (.reg [⟨some 54, none, .mv (.t 7)⟩,
        ⟨some 55, none, .bin .lss (.t 54) (.c (.val (.int .i64 0)))⟩])
    (.cond (.t 55) (.seq (.reg [⟨some 56, none, .build [.nil] []⟩,
          ⟨some 57, none, .build [.val (.int .i64 0), .val (.int .i64 0)] []⟩,
          ⟨none, none, .store [some 3] (.t 4) (.t 56)⟩,
          ⟨none, none, .store [none, none] (.t 5) (.t 57)⟩,
          ⟨some 6, none, .mv (.c (.val (.bool false)))⟩])
      (.ret K_spec_NewHandle_0))
    (.skip)))
  (.seq (.reg [⟨some 58, none, .load 1 true (.t 2)⟩,
      ⟨some 59, none, .call 51 [.lent [some 3]] [.t 58]⟩,
      ⟨some 10, none, .alloc [.nil]⟩,
      ⟨none, none, .store [some 3] (.t 10) (.t 59)⟩])
  (.seq (.reg [⟨some 60, none, .faddr (.t 10) 0⟩,
      ⟨some 61, none, .load 1 false (.t 60)⟩,
      ⟨some 62, none, .mv (.t 7)⟩,
      ⟨some 63, none, .iaddr 3 (.t 61) (.t 62)⟩,
      ⟨some 64, none, .faddr (.t 63) 1⟩,
      ⟨none, none, .store [none] (.t 64) (.c (.val (.bool true)))⟩])
  (.seq (.reg [⟨some 65, none, .faddr (.t 10) 0⟩,
      ⟨some 66, none, .load 1 false (.t 65)⟩,
      ⟨some 67, none, .mv (.t 7)⟩,
      ⟨some 68, none, .mv (.t 1)⟩,
      ⟨some 69, none, .iaddr 3 (.t 66) (.t 67)⟩,
      ⟨some 70, none, .faddr (.t 69) 2⟩,
      ⟨none, none, .store [none] (.t 70) (.t 68)⟩])
  (.seq (.dreg [⟨⟨some 71, none, .load 1 true (.t 10)⟩, 0, [], []⟩,
      ⟨⟨some 72, none, .mv (.t 7)⟩, 1, [], []⟩,
      ⟨⟨some 73, none, .faddr (.t 2) 0⟩, 2, [], []⟩,
      ⟨⟨some 74, none, .load 1 false (.t 73)⟩, 3, [], []⟩,
      ⟨⟨some 75, none, .mv (.t 7)⟩, 4, [], []⟩,
      ⟨⟨some 76, none, .iaddr 3 (.t 74) (.t 75)⟩, 5, [], []⟩,
      ⟨⟨some 77, none, .faddr (.t 76) 0⟩, 6, [], []⟩,
      ⟨⟨some 78, none, .load 1 false (.t 77)⟩, 7, [], []⟩,
      ⟨⟨some 79, none, .build [.val (.int .i64 0), .val (.int .i64 0)] [(0, 1, .t 72), (1, 1, .t 78)]⟩, 8, [], []⟩,
      ⟨⟨none, none, .store [some 3] (.t 4) (.t 71)⟩, 9, [⟨some 74, none, .load 1 false (.t 73)⟩, ⟨some 76, none, .iaddr 3 (.t 74) (.t 75)⟩, ⟨some 78, none, .load 1 false (.t 77)⟩], []⟩,
      ⟨⟨none, none, .store [none, none] (.t 5) (.t 79)⟩, 10, [], []⟩,
      ⟨⟨some 6, none, .mv (.c (.val (.bool true)))⟩, 11, [], []⟩])
  (.ret K_spec_NewHandle_0)))))))))
def f_spec_NewHandle : IFn := ⟨2, [(.cell 4 1 true, [some 3]), (.cell 5 2 true, []), (.t 6, [])], [], C_spec_NewHandle⟩
/-! 23 loop.example/g00627/impl.NewHandle -/
@[simp] def K_impl_NewHandle_0 : Keep := ⟨[((4, 0), []), ((5, 0), []), ((6, 0), []), ((4, 1), [some 3]), ((5, 1), []), ((5, 2), [])], [4, 5], []⟩
def C_impl_NewHandle : IC := .seq (.reg [⟨some 2, none, .box 1 (.t 0)⟩,
      ⟨some 4, none, .alloc [.nil]⟩,
      ⟨some 5, none, .alloc [.val (.int .i64 0), .val (.int .i64 0)]⟩,
      ⟨some 6, none, .mv (.c (.val (.bool false)))⟩])
  (.seq (.seq (.reg [⟨some 10, none, .load 1 true (.t 2)⟩,
        ⟨some 11, none, .call 48 [.lent [some 3]] [.t 10]⟩,
        ⟨some 12, none, .un .not (.t 11)⟩,
        ⟨some 13, none, .mv (.t 12)⟩,
        ⟨some 14, some (13, false), .mv (.t 1)⟩,
        ⟨some 15, some (13, false), .call 56 [.lent [], .lent [], .lent []] [.t 14, .c (.val (.int .i64 0)), .c (.val (.int .i64 1000))]⟩,
        ⟨some 16, some (13, false), .un .not (.t 15)⟩,
        ⟨some 17, none, .pick (.t 13) (.c (.val (.bool true))) (.t 16)⟩])
    (.cond (.t 17) (.seq (.reg [⟨some 18, none, .build [.nil] []⟩,
          ⟨some 19, none, .build [.val (.int .i64 0), .val (.int .i64 0)] []⟩,
          ⟨none, none, .store [some 3] (.t 4) (.t 18)⟩,
          ⟨none, none, .store [none, none] (.t 5) (.t 19)⟩,
          ⟨some 6, none, .mv (.c (.val (.bool false)))⟩])
      (.ret K_impl_NewHandle_0))
    (.skip)))
  (.seq (.reg [⟨some 20, none, .faddr (.t 2) 0⟩,
      ⟨some 21, none, .load 1 false (.t 20)⟩,
      ⟨some 22, none, .call 52 [.lent []] [.t 21]⟩,
      ⟨some 23, none, .build [.nil] [(0, 1, .t 22)]⟩,
      ⟨some 7, none, .alloc [.nil]⟩,
      ⟨none, none, .store [some 3] (.t 7) (.t 23)⟩])
  (.seq (.reg [⟨some 25, none, .mv (.t 1)⟩,
      ⟨some 26, none, .call 57 [.cells [some 3], .lent []] [.t 7, .t 25]⟩,
      ⟨some 24, none, .mv (.t 26)⟩,
      ⟨some 27, none, .extract (.t 24) 0⟩,
      ⟨some 28, none, .extract (.t 24) 1⟩,
      ⟨some 8, none, .alloc [.val (.int .i64 0), .val (.int .i64 0)]⟩,
      ⟨none, none, .store [none, none] (.t 8) (.t 27)⟩,
      ⟨some 9, none, .mv (.t 28)⟩])
  (.seq (.seq (.reg [⟨some 29, none, .mv (.t 9)⟩,
        ⟨some 30, none, .un .not (.t 29)⟩])
    (.cond (.t 30) (.seq (.reg [⟨some 31, none, .build [.nil] []⟩,
          ⟨some 32, none, .build [.val (.int .i64 0), .val (.int .i64 0)] []⟩,
          ⟨none, none, .store [some 3] (.t 4) (.t 31)⟩,
          ⟨none, none, .store [none, none] (.t 5) (.t 32)⟩,
          ⟨some 6, none, .mv (.c (.val (.bool false)))⟩])
      (.ret K_impl_NewHandle_0))
    (.skip)))
  (.seq (.dreg [⟨⟨some 33, none, .load 1 true (.t 7)⟩, 0, [], []⟩,
      ⟨⟨some 34, none, .load 2 true (.t 8)⟩, 1, [], []⟩,
      ⟨⟨none, none, .store [some 3] (.t 4) (.t 33)⟩, 2, [⟨some 34, none, .load 2 true (.t 8)⟩], []⟩,
      ⟨⟨none, none, .store [none, none] (.t 5) (.t 34)⟩, 3, [], []⟩,
      ⟨⟨some 6, none, .mv (.c (.val (.bool true)))⟩, 4, [], []⟩])
  (.ret K_impl_NewHandle_0))))))
def f_impl_NewHandle : IFn := ⟨2, [(.cell 4 1 true, [some 3]), (.cell 5 2 true, []), (.t 6, [])], [], C_impl_NewHandle⟩
/-! 24 loop.example/g00627/laws.eqHandle -/
@[simp] def K_laws_eqHandle_0 : Keep := ⟨[((4, 0), [])], [], []⟩
def C_laws_eqHandle : IC := .seq (.reg [⟨some 2, none, .box 2 (.t 0)⟩,
      ⟨some 3, none, .box 2 (.t 1)⟩,
      ⟨some 4, none, .mv (.c (.val (.bool false)))⟩])
  (.seq (.seq (.reg [⟨some 5, none, .faddr (.t 2) 0⟩,
        ⟨some 6, none, .load 1 false (.t 5)⟩,
        ⟨some 7, none, .faddr (.t 3) 0⟩,
        ⟨some 8, none, .load 1 false (.t 7)⟩,
        ⟨some 9, none, .bin .neq (.t 6) (.t 8)⟩])
    (.cond (.t 9) (.seq (.reg [⟨some 4, none, .mv (.c (.val (.bool false)))⟩])
      (.ret K_laws_eqHandle_0))
    (.skip)))
  (.seq (.seq (.reg [⟨some 10, none, .faddr (.t 2) 1⟩,
        ⟨some 11, none, .load 1 false (.t 10)⟩,
        ⟨some 12, none, .faddr (.t 3) 1⟩,
        ⟨some 13, none, .load 1 false (.t 12)⟩,
        ⟨some 14, none, .bin .neq (.t 11) (.t 13)⟩])
    (.cond (.t 14) (.seq (.reg [⟨some 4, none, .mv (.c (.val (.bool false)))⟩])
      (.ret K_laws_eqHandle_0))
    (.skip)))
  (.seq (.reg [⟨some 4, none, .mv (.c (.val (.bool true)))⟩])
  (.ret K_laws_eqHandle_0))))
def f_laws_eqHandle : IFn := ⟨2, [(.t 4, [])], [], C_laws_eqHandle⟩
/-! 25 loop.example/g00627/spec.DrawNewHandle -/
@[simp] def K_spec_DrawNewHandle_0 : Keep := ⟨[((2, 0), []), ((3, 0), []), ((2, 1), [some 3])], [2], []⟩
def C_spec_DrawNewHandle : IC := .seq (.reg [⟨some 2, none, .alloc [.nil]⟩,
      ⟨some 3, none, .mv (.c (.val (.int .i64 0)))⟩])
  (.seq (.reg [⟨some 5, none, .mv (.t 0)⟩,
      ⟨some 6, none, .build [.nil, .val (.int .i64 0), .val (.int .u64 0)] [(0, 1, .t 5)]⟩,
      ⟨some 7, none, .box 3 (.t 6)⟩,
      ⟨some 4, none, .mv (.t 7)⟩])
  (.seq (.reg [⟨some 8, none, .mv (.t 4)⟩,
      ⟨some 9, none, .call 58 [.cells [some 1, none, none]] [.t 8]⟩,
      ⟨some 10, none, .mv (.t 4)⟩,
      ⟨some 11, none, .bslice [none] [[.val (.int .i64 0)], [.val (.int .i64 0)], [.val (.int .i64 0)], [.val (.int .i64 0)], [.val (.int .i64 0)]] [(0, .c (.val (.int .i64 (-1)))), (1, .c (.val (.int .i64 0))), (2, .c (.val (.int .i64 7))), (3, .c (.val (.int .i64 1000))), (4, .c (.val (.int .i64 1001)))]⟩,
      ⟨some 12, none, .call 59 [.cells [some 1, none, none], .lent [some 1]] [.t 10, .t 11]⟩,
      ⟨none, none, .store [some 3] (.t 2) (.t 9)⟩,
      ⟨some 3, none, .mv (.t 12)⟩])
  (.ret K_spec_DrawNewHandle_0)))
def f_spec_DrawNewHandle : IFn := ⟨1, [(.cell 2 1 true, [some 3]), (.t 3, [])], [], C_spec_DrawNewHandle⟩
/-! 26 loop.example/g00627/laws.sameBook -/
@[simp] def K_laws_sameBook_0 : Keep := ⟨[((4, 0), [])], [], []⟩
@[simp] def K_laws_sameBook_1 : Keep := ⟨[], [], []⟩
def B_laws_sameBook_4 : IC := .seq (.reg [⟨some 17, none, .bin .lss (.t 16) (.t 15)⟩])
  (.seq (.cond (.t 17) (.skip)
    (.exit 0 K_laws_sameBook_1))
  (.seq (.block 1 (.seq (.reg [⟨some 18, none, .mv (.t 16)⟩,
        ⟨some 5, none, .mv (.t 18)⟩])
    (.seq (.dreg [⟨⟨some 19, none, .faddr (.t 2) 0⟩, 0, [], []⟩,
        ⟨⟨some 20, none, .load 1 false (.t 19)⟩, 1, [], []⟩,
        ⟨⟨some 21, none, .mv (.t 5)⟩, 2, [], []⟩,
        ⟨⟨some 22, none, .iaddr 3 (.t 20) (.t 21)⟩, 3, [], []⟩,
        ⟨⟨some 23, none, .load 3 true (.t 22)⟩, 4, [], []⟩,
        ⟨⟨some 24, none, .faddr (.t 3) 0⟩, 5, [], []⟩,
        ⟨⟨some 25, none, .load 1 false (.t 24)⟩, 6, [], []⟩,
        ⟨⟨some 26, none, .mv (.t 5)⟩, 7, [], []⟩,
        ⟨⟨some 27, none, .iaddr 3 (.t 25) (.t 26)⟩, 8, [], []⟩,
        ⟨⟨some 28, none, .load 3 true (.t 27)⟩, 9, [], []⟩,
        ⟨⟨some 29, none, .eqv true [0, 1, 0] (.t 23) (.t 28)⟩, 10, [], []⟩])
    (.cond (.t 29) (.seq (.reg [⟨some 4, none, .mv (.c (.val (.bool false)))⟩])
      (.ret K_laws_sameBook_0))
    (.skip)))))
  (.reg [⟨some 30, none, .bin .add (.t 16) (.c (.val (.int .i64 1)))⟩,
    ⟨some 16, none, .mv (.t 30)⟩])))
@[simp] def K_laws_sameBook_2 : Keep := ⟨[((2, 0), []), ((3, 0), []), ((15, 0), []), ((16, 0), []), ((2, 1), [some 3]), ((3, 1), [some 3])], [2, 3], []⟩
def L_laws_sameBook_4 : IC := .loop K_laws_sameBook_2 B_laws_sameBook_4
def C_laws_sameBook : IC := .seq (.reg [⟨some 2, none, .box 1 (.t 0)⟩,
      ⟨some 3, none, .box 1 (.t 1)⟩,
      ⟨some 4, none, .mv (.c (.val (.bool false)))⟩])
  (.seq (.seq (.reg [⟨some 6, none, .faddr (.t 2) 0⟩,
        ⟨some 7, none, .load 1 false (.t 6)⟩,
        ⟨some 8, none, .len (.t 7)⟩,
        ⟨some 9, none, .faddr (.t 3) 0⟩,
        ⟨some 10, none, .load 1 false (.t 9)⟩,
        ⟨some 11, none, .len (.t 10)⟩,
        ⟨some 12, none, .bin .neq (.t 8) (.t 11)⟩])
    (.cond (.t 12) (.seq (.reg [⟨some 4, none, .mv (.c (.val (.bool false)))⟩])
      (.ret K_laws_sameBook_0))
    (.skip)))
  (.seq (.seq (.reg [⟨some 13, none, .faddr (.t 2) 0⟩,
        ⟨some 14, none, .load 1 false (.t 13)⟩,
        ⟨some 15, none, .len (.t 14)⟩,
        ⟨some 16, none, .mv (.c (.val (.int .i64 0)))⟩])
    (.block 0 (L_laws_sameBook_4)))
  (.seq (.reg [⟨some 4, none, .mv (.c (.val (.bool true)))⟩])
  (.ret K_laws_sameBook_0))))
def f_laws_sameBook : IFn := ⟨2, [(.t 4, [])], [], C_laws_sameBook⟩
/-! 27 loop.example/g00627/impl.GoodBook -/
@[simp] def K_impl_GoodBook_0 : Keep := ⟨[((2, 0), [])], [], []⟩
def C_impl_GoodBook : IC := .seq (.reg [⟨some 1, none, .box 1 (.t 0)⟩,
      ⟨some 2, none, .mv (.c (.val (.bool false)))⟩])
  (.seq (.reg [⟨some 3, none, .load 1 true (.t 1)⟩,
      ⟨some 4, none, .call 48 [.lent [some 3]] [.t 3]⟩,
      ⟨some 2, none, .mv (.t 4)⟩])
  (.ret K_impl_GoodBook_0))
def f_impl_GoodBook : IFn := ⟨1, [(.t 2, [])], [], C_impl_GoodBook⟩
/-! 28 loop.example/g00627/spec.GoodBook -/
@[simp] def K_spec_GoodBook_0 : Keep := ⟨[((1, 0), []), ((1, 1), [some 3])], [1], []⟩
@[simp] def K_spec_GoodBook_1 : Keep := ⟨[((2, 0), [])], [], []⟩
def B_spec_GoodBook_2 : IC := .seq (.reg [⟨some 9, none, .bin .lss (.t 8) (.t 7)⟩])
  (.seq (.cond (.t 9) (.skip)
    (.exit 0 K_spec_GoodBook_0))
  (.seq (.block 1 (.seq (.reg [⟨some 10, none, .iaddr 3 (.t 6) (.t 8)⟩,
        ⟨some 11, none, .load 3 true (.t 10)⟩,
        ⟨some 4, none, .alloc [.val (.int .i64 0), .val (.bool false), .val (.int .i64 0)]⟩,
        ⟨none, none, .store [none, none, none] (.t 4) (.t 11)⟩])
    (.seq (.reg [⟨some 12, none, .faddr (.t 4) 0⟩,
        ⟨some 13, none, .load 1 false (.t 12)⟩,
        ⟨some 14, none, .call 55 [.lent [], .lent [], .lent []] [.t 13, .c (.val (.int .i64 0)), .c (.val (.int .i64 8))]⟩,
        ⟨some 15, none, .un .not (.t 14)⟩,
        ⟨some 16, none, .mv (.t 15)⟩,
        ⟨some 17, some (16, false), .faddr (.t 4) 2⟩,
        ⟨some 18, some (16, false), .load 1 false (.t 17)⟩,
        ⟨some 19, some (16, false), .call 55 [.lent [], .lent [], .lent []] [.t 18, .c (.val (.int .i64 0)), .c (.val (.int .i64 1000))]⟩,
        ⟨some 20, some (16, false), .un .not (.t 19)⟩,
        ⟨some 21, none, .pick (.t 16) (.c (.val (.bool true))) (.t 20)⟩,
        ⟨some 22, none, .mv (.t 21)⟩,
        ⟨some 23, some (22, false), .faddr (.t 4) 1⟩,
        ⟨some 24, some (22, false), .load 1 false (.t 23)⟩,
        ⟨some 25, some (22, false), .un .not (.t 24)⟩,
        ⟨some 26, some (22, false), .mv (.t 25)⟩,
        ⟨some 27, some (26, true), .faddr (.t 4) 2⟩,
        ⟨some 28, some (26, true), .load 1 false (.t 27)⟩,
        ⟨some 29, some (26, true), .bin .neq (.t 28) (.c (.val (.int .i64 0)))⟩,
        ⟨some 30, some (22, false), .pick (.t 26) (.t 29) (.c (.val (.bool false)))⟩,
        ⟨some 31, none, .pick (.t 22) (.c (.val (.bool true))) (.t 30)⟩,
        ⟨some 32, none, .mv (.t 31)⟩,
        ⟨some 33, some (32, false), .faddr (.t 4) 1⟩,
        ⟨some 34, some (32, false), .load 1 false (.t 33)⟩,
        ⟨some 35, some (32, false), .mv (.t 34)⟩,
        ⟨some 36, some (35, true), .faddr (.t 4) 0⟩,
        ⟨some 37, some (35, true), .load 1 false (.t 36)⟩,
        ⟨some 38, some (35, true), .bin .eql (.t 37) (.c (.val (.int .i64 8)))⟩,
        ⟨some 39, some (32, false), .pick (.t 35) (.t 38) (.c (.val (.bool false)))⟩,
        ⟨some 40, none, .pick (.t 32) (.c (.val (.bool true))) (.t 39)⟩])
    (.cond (.t 40) (.seq (.reg [⟨some 2, none, .mv (.c (.val (.bool false)))⟩])
      (.ret K_spec_GoodBook_1))
    (.skip)))))
  (.reg [⟨some 41, none, .bin .add (.t 8) (.c (.val (.int .i64 1)))⟩,
    ⟨some 8, none, .mv (.t 41)⟩])))
@[simp] def K_spec_GoodBook_2 : Keep := ⟨[((1, 0), []), ((6, 0), [some 3]), ((7, 0), []), ((8, 0), []), ((1, 1), [some 3])], [1], []⟩
def L_spec_GoodBook_2 : IC := .loop K_spec_GoodBook_2 B_spec_GoodBook_2
def C_spec_GoodBook : IC := .seq (.reg [⟨some 1, none, .box 1 (.t 0)⟩,
      ⟨some 2, none, .mv (.c (.val (.bool false)))⟩])
  (.seq (.seq (.reg [⟨some 5, none, .faddr (.t 1) 0⟩,
        ⟨some 6, none, .load 1 false (.t 5)⟩,
        ⟨some 7, none, .len (.t 6)⟩,
        ⟨some 8, none, .mv (.c (.val (.int .i64 0)))⟩])
    (.block 0 (L_spec_GoodBook_2)))
  (.seq (.reg [⟨some 42, none, .faddr (.t 1) 0⟩,
      ⟨some 43, none, .load 1 false (.t 42)⟩,
      ⟨some 44, none, .len (.t 43)⟩,
      ⟨some 45, none, .call 55 [.lent [], .lent [], .lent []] [.t 44, .c (.val (.int .i64 1)), .c (.val (.int .i64 6))]⟩,
      ⟨some 2, none, .mv (.t 45)⟩])
  (.ret K_spec_GoodBook_1)))
def f_spec_GoodBook : IFn := ⟨1, [(.t 2, [])], [], C_spec_GoodBook⟩
/-! 29 loop.example/g00627/spec.DrawValueOf -/
@[simp] def K_spec_DrawValueOf_0 : Keep := ⟨[((2, 0), []), ((3, 0), []), ((2, 1), [some 3]), ((3, 1), []), ((3, 2), [])], [2, 3], []⟩
def C_spec_DrawValueOf : IC := .seq (.reg [⟨some 2, none, .alloc [.nil]⟩,
      ⟨some 3, none, .alloc [.val (.int .i64 0), .val (.int .i64 0)]⟩])
  (.seq (.reg [⟨some 7, none, .mv (.t 0)⟩,
      ⟨some 8, none, .build [.nil, .val (.int .i64 0), .val (.int .u64 0)] [(0, 1, .t 7)]⟩,
      ⟨some 9, none, .box 3 (.t 8)⟩,
      ⟨some 4, none, .mv (.t 9)⟩])
  (.seq (.reg [⟨some 10, none, .mv (.t 4)⟩,
      ⟨some 11, none, .call 58 [.cells [some 1, none, none]] [.t 10]⟩,
      ⟨some 5, none, .alloc [.nil]⟩,
      ⟨none, none, .store [some 3] (.t 5) (.t 11)⟩])
  (.seq (.reg [⟨some 12, none, .mv (.t 4)⟩,
      ⟨some 13, none, .call 60 [.cells [some 1, none, none], .lent []] [.t 12, .c (.val (.int .i64 5))]⟩,
      ⟨some 14, none, .bin .sub (.t 13) (.c (.val (.int .i64 1)))⟩,
      ⟨some 15, none, .mv (.t 4)⟩,
      ⟨some 16, none, .call 60 [.cells [some 1, none, none], .lent []] [.t 15, .c (.val (.int .i64 4))]⟩,
      ⟨some 17, none, .build [.val (.int .i64 0), .val (.int .i64 0)] [(0, 1, .t 14), (1, 1, .t 16)]⟩,
      ⟨some 6, none, .alloc [.val (.int .i64 0), .val (.int .i64 0)]⟩,
      ⟨none, none, .store [none, none] (.t 6) (.t 17)⟩])
  (.seq (.seq (.reg [⟨some 18, none, .mv (.t 4)⟩,
        ⟨some 19, none, .call 61 [.cells [some 1, none, none], .lent []] [.t 18, .c (.val (.int .i64 2))]⟩])
    (.cond (.t 19) (.seq (.reg [⟨some 20, none, .mv (.t 4)⟩,
          ⟨some 21, none, .faddr (.t 5) 0⟩,
          ⟨some 22, none, .load 1 false (.t 21)⟩,
          ⟨some 23, none, .len (.t 22)⟩,
          ⟨some 24, none, .call 60 [.cells [some 1, none, none], .lent []] [.t 20, .t 23]⟩,
          ⟨some 25, none, .faddr (.t 6) 0⟩,
          ⟨none, none, .store [none] (.t 25) (.t 24)⟩])
      (.reg [⟨some 26, none, .faddr (.t 5) 0⟩,
        ⟨some 27, none, .load 1 false (.t 26)⟩,
        ⟨some 28, none, .faddr (.t 6) 0⟩,
        ⟨some 29, none, .load 1 false (.t 28)⟩,
        ⟨some 30, none, .iaddr 3 (.t 27) (.t 29)⟩,
        ⟨some 31, none, .faddr (.t 30) 0⟩,
        ⟨some 32, none, .load 1 false (.t 31)⟩,
        ⟨some 33, none, .faddr (.t 6) 1⟩,
        ⟨none, none, .store [none] (.t 33) (.t 32)⟩]))
    (.skip)))
  (.seq (.dreg [⟨⟨some 34, none, .load 1 true (.t 5)⟩, 0, [], []⟩,
      ⟨⟨some 35, none, .load 2 true (.t 6)⟩, 1, [], []⟩,
      ⟨⟨none, none, .store [some 3] (.t 2) (.t 34)⟩, 2, [⟨some 35, none, .load 2 true (.t 6)⟩], []⟩,
      ⟨⟨none, none, .store [none, none] (.t 3) (.t 35)⟩, 3, [], []⟩])
  (.ret K_spec_DrawValueOf_0))))))
def f_spec_DrawValueOf : IFn := ⟨1, [(.cell 2 1 true, [some 3]), (.cell 3 2 true, [])], [], C_spec_DrawValueOf⟩
/-! 30 loop.example/g00627/spec.DrawEmptyBook -/
@[simp] def K_spec_DrawEmptyBook_0 : Keep := ⟨[((2, 0), [])], [], []⟩
def C_spec_DrawEmptyBook : IC := .seq (.reg [⟨some 2, none, .mv (.c (.val (.int .i64 0)))⟩])
  (.seq (.reg [⟨some 4, none, .mv (.t 0)⟩,
      ⟨some 5, none, .build [.nil, .val (.int .i64 0), .val (.int .u64 0)] [(0, 1, .t 4)]⟩,
      ⟨some 6, none, .box 3 (.t 5)⟩,
      ⟨some 3, none, .mv (.t 6)⟩])
  (.seq (.reg [⟨some 7, none, .mv (.t 3)⟩,
      ⟨some 8, none, .call 60 [.cells [some 1, none, none], .lent []] [.t 7, .c (.val (.int .i64 9))]⟩,
      ⟨some 9, none, .bin .sub (.t 8) (.c (.val (.int .i64 1)))⟩,
      ⟨some 2, none, .mv (.t 9)⟩])
  (.ret K_spec_DrawEmptyBook_0)))
def f_spec_DrawEmptyBook : IFn := ⟨1, [(.t 2, [])], [], C_spec_DrawEmptyBook⟩
/-! 31 loop.example/g00627/impl.EmptyBook -/
@[simp] def K_impl_EmptyBook_0 : Keep := ⟨[((2, 0), []), ((3, 0), []), ((2, 1), [some 3])], [2], []⟩
def C_impl_EmptyBook : IC := .seq (.reg [⟨some 2, none, .alloc [.nil]⟩,
      ⟨some 3, none, .mv (.c (.val (.bool false)))⟩])
  (.seq (.seq (.reg [⟨some 4, none, .mv (.t 0)⟩,
        ⟨some 5, none, .call 56 [.lent [], .lent [], .lent []] [.t 4, .c (.val (.int .i64 1)), .c (.val (.int .i64 6))]⟩,
        ⟨some 6, none, .un .not (.t 5)⟩])
    (.cond (.t 6) (.seq (.reg [⟨some 7, none, .build [.nil] []⟩,
          ⟨none, none, .store [some 3] (.t 2) (.t 7)⟩,
          ⟨some 3, none, .mv (.c (.val (.bool false)))⟩])
      (.ret K_impl_EmptyBook_0))
    (.skip)))
  (.seq (.reg [⟨some 8, none, .mv (.t 0)⟩,
      ⟨some 9, none, .mkslice 3 24 [.val (.int .i64 0), .val (.bool false), .val (.int .i64 0)] (.t 8) (.t 8)⟩,
      ⟨some 10, none, .build [.nil] [(0, 1, .t 9)]⟩,
      ⟨none, none, .store [some 3] (.t 2) (.t 10)⟩,
      ⟨some 3, none, .mv (.c (.val (.bool true)))⟩])
  (.ret K_impl_EmptyBook_0)))
def f_impl_EmptyBook : IFn := ⟨1, [(.cell 2 1 true, [some 3]), (.t 3, [])], [], C_impl_EmptyBook⟩
/-! 32 loop.example/g00627/spec.EmptyBook -/
@[simp] def K_spec_EmptyBook_0 : Keep := ⟨[((2, 0), []), ((3, 0), []), ((2, 1), [some 3])], [2], []⟩
def C_spec_EmptyBook : IC := .seq (.reg [⟨some 2, none, .alloc [.nil]⟩,
      ⟨some 3, none, .mv (.c (.val (.bool false)))⟩])
  (.seq (.seq (.reg [⟨some 4, none, .mv (.t 0)⟩,
        ⟨some 5, none, .call 55 [.lent [], .lent [], .lent []] [.t 4, .c (.val (.int .i64 1)), .c (.val (.int .i64 6))]⟩,
        ⟨some 6, none, .un .not (.t 5)⟩])
    (.cond (.t 6) (.seq (.reg [⟨some 7, none, .build [.nil] []⟩,
          ⟨none, none, .store [some 3] (.t 2) (.t 7)⟩,
          ⟨some 3, none, .mv (.c (.val (.bool false)))⟩])
      (.ret K_spec_EmptyBook_0))
    (.skip)))
  (.seq (.reg [⟨some 8, none, .mv (.t 0)⟩,
      ⟨some 9, none, .mkslice 3 24 [.val (.int .i64 0), .val (.bool false), .val (.int .i64 0)] (.t 8) (.t 8)⟩,
      ⟨some 10, none, .build [.nil] [(0, 1, .t 9)]⟩,
      ⟨none, none, .store [some 3] (.t 2) (.t 10)⟩,
      ⟨some 3, none, .mv (.c (.val (.bool true)))⟩])
  (.ret K_spec_EmptyBook_0)))
def f_spec_EmptyBook : IFn := ⟨1, [(.cell 2 1 true, [some 3]), (.t 3, [])], [], C_spec_EmptyBook⟩
/-! 33 loop.example/g00627/spec.DrawPlayBook -/
@[simp] def K_spec_DrawPlayBook_0 : Keep := ⟨[((2, 0), []), ((3, 0), [some 4])], [], []⟩
def C_spec_DrawPlayBook : IC := .seq (.reg [⟨some 2, none, .mv (.c (.val (.int .i64 0)))⟩,
      ⟨some 3, none, .mv (.c (.nil))⟩])
  (.seq (.reg [⟨some 5, none, .mv (.t 0)⟩,
      ⟨some 6, none, .build [.nil, .val (.int .i64 0), .val (.int .u64 0)] [(0, 1, .t 5)]⟩,
      ⟨some 7, none, .box 3 (.t 6)⟩,
      ⟨some 4, none, .mv (.t 7)⟩])
  (.seq (.reg [⟨some 8, none, .mv (.t 4)⟩,
      ⟨some 9, none, .call 60 [.cells [some 1, none, none], .lent []] [.t 8, .c (.val (.int .i64 8))]⟩,
      ⟨some 10, none, .mv (.t 4)⟩,
      ⟨some 11, none, .call 62 [.cells [some 1, none, none]] [.t 10]⟩,
      ⟨some 2, none, .mv (.t 9)⟩,
      ⟨some 3, none, .mv (.t 11)⟩])
  (.ret K_spec_DrawPlayBook_0)))
def f_spec_DrawPlayBook : IFn := ⟨1, [(.t 2, []), (.t 3, [some 4])], [], C_spec_DrawPlayBook⟩
/-! 34 loop.example/g00627/impl.PlayBook -/
@[simp] def K_impl_PlayBook_0 : Keep := ⟨[((1, 0), [some 4]), ((4, 0), []), ((5, 0), [some 2]), ((6, 0), []), ((4, 1), [some 3])], [4], [(1, 0)]⟩
@[simp] def K_impl_PlayBook_1 : Keep := ⟨[((1, 0), [some 4]), ((4, 0), []), ((7, 0), []), ((8, 0), [some 2]), ((4, 1), [some 3]), ((7, 1), [some 3])], [4, 7], [(1, 0)]⟩
def B_impl_PlayBook_6 : IC := .seq (.reg [⟨some 26, none, .bin .lss (.t 25) (.t 24)⟩])
  (.seq (.cond (.t 26) (.skip)
    (.exit 0 K_impl_PlayBook_1))
  (.seq (.block 1 (.seq (.reg [⟨some 27, none, .iaddr 4 (.t 23) (.t 25)⟩,
        ⟨some 28, none, .load 4 true (.t 27)⟩,
        ⟨some 10, none, .alloc [.val (.bool false), .val (.int .i64 0), .val (.int .i64 0), .val (.int .i64 0)]⟩,
        ⟨none, none, .store [none, none, none, none] (.t 10) (.t 28)⟩])
    (.reg [⟨some 29, none, .mv (.t 8)⟩,
      ⟨some 30, none, .load 4 true (.t 10)⟩,
      ⟨some 31, none, .call 63 [.cells [some 3], .lent []] [.t 7, .t 30]⟩,
      ⟨some 32, none, .bslice [none, none] [[.val (.int .i64 0), .val (.int .i64 0)]] [(0, .t 31)]⟩,
      ⟨some 33, none, .append 2 16 (.t 29) (.t 32)⟩,
      ⟨some 8, none, .mv (.t 33)⟩])))
  (.reg [⟨some 34, none, .bin .add (.t 25) (.c (.val (.int .i64 1)))⟩,
    ⟨some 25, none, .mv (.t 34)⟩])))
@[simp] def K_impl_PlayBook_2 : Keep := ⟨[((1, 0), [some 4]), ((4, 0), []), ((7, 0), []), ((8, 0), [some 2]), ((23, 0), [some 4]), ((24, 0), []), ((25, 0), []), ((4, 1), [some 3]), ((7, 1), [some 3])], [4, 7], [(1, 0)]⟩
def L_impl_PlayBook_6 : IC := .loop K_impl_PlayBook_2 B_impl_PlayBook_6
def C_impl_PlayBook : IC := .seq (.reg [⟨some 4, none, .alloc [.nil]⟩,
      ⟨some 5, none, .mv (.c (.nil))⟩,
      ⟨some 6, none, .mv (.c (.val (.bool false)))⟩])
  (.seq (.seq (.reg [⟨some 11, none, .mv (.t 0)⟩,
        ⟨some 12, none, .call 56 [.lent [], .lent [], .lent []] [.t 11, .c (.val (.int .i64 1)), .c (.val (.int .i64 6))]⟩,
        ⟨some 13, none, .un .not (.t 12)⟩,
        ⟨some 14, none, .mv (.t 13)⟩,
        ⟨some 15, some (14, false), .mv (.t 1)⟩,
        ⟨some 16, some (14, false), .len (.t 15)⟩,
        ⟨some 17, some (14, false), .bin .gtr (.t 16) (.c (.val (.int .i64 60)))⟩,
        ⟨some 18, none, .pick (.t 14) (.c (.val (.bool true))) (.t 17)⟩])
    (.cond (.t 18) (.seq (.reg [⟨some 19, none, .build [.nil] []⟩,
          ⟨none, none, .store [some 3] (.t 4) (.t 19)⟩,
          ⟨some 5, none, .mv (.c (.nil))⟩,
          ⟨some 6, none, .mv (.c (.val (.bool false)))⟩])
      (.ret K_impl_PlayBook_0))
    (.skip)))
  (.seq (.reg [⟨some 20, none, .mv (.t 0)⟩,
      ⟨some 21, none, .mkslice 3 24 [.val (.int .i64 0), .val (.bool false), .val (.int .i64 0)] (.t 20) (.t 20)⟩,
      ⟨some 22, none, .build [.nil] [(0, 1, .t 21)]⟩,
      ⟨some 7, none, .alloc [.nil]⟩,
      ⟨none, none, .store [some 3] (.t 7) (.t 22)⟩])
  (.seq (.reg [⟨some 8, none, .mv (.c (.nil))⟩])
  (.seq (.seq (.reg [⟨some 23, none, .mv (.t 1)⟩,
        ⟨some 24, none, .len (.t 23)⟩,
        ⟨some 25, none, .mv (.c (.val (.int .i64 0)))⟩])
    (.block 0 (L_impl_PlayBook_6)))
  (.seq (.reg [⟨some 35, none, .load 1 true (.t 7)⟩,
      ⟨some 36, none, .mv (.t 8)⟩,
      ⟨none, none, .store [some 3] (.t 4) (.t 35)⟩,
      ⟨some 5, none, .mv (.t 36)⟩,
      ⟨some 6, none, .mv (.c (.val (.bool true)))⟩])
  (.ret K_impl_PlayBook_0))))))
def f_impl_PlayBook : IFn := ⟨2, [(.cell 4 1 true, [some 3]), (.t 5, [some 2]), (.t 6, [])], [(1, .row [some 4])], C_impl_PlayBook⟩
/-! 35 loop.example/g00627/spec.PlayBook -/
@[simp] def K_spec_PlayBook_0 : Keep := ⟨[((4, 0), []), ((5, 0), [some 2]), ((6, 0), []), ((4, 1), [some 3])], [4], []⟩
@[simp] def K_spec_PlayBook_1 : Keep := ⟨[((4, 0), []), ((7, 0), []), ((9, 0), [some 2]), ((4, 1), [some 3]), ((7, 1), [some 3])], [4, 7], []⟩
def B_spec_PlayBook_6 : IC := .seq (.reg [⟨some 34, none, .bin .lss (.t 33) (.t 32)⟩])
  (.seq (.cond (.t 34) (.skip)
    (.exit 0 K_spec_PlayBook_1))
  (.seq (.block 1 (.seq (.reg [⟨some 35, none, .iaddr 4 (.t 31) (.t 33)⟩,
        ⟨some 36, none, .load 4 true (.t 35)⟩,
        ⟨some 11, none, .alloc [.val (.bool false), .val (.int .i64 0), .val (.int .i64 0), .val (.int .i64 0)]⟩,
        ⟨none, none, .store [none, none, none, none] (.t 11) (.t 36)⟩])
    (.seq (.reg [⟨some 37, none, .build [.val (.int .i64 0), .val (.int .i64 0)] [(0, 1, .c (.val (.int .i64 (-2))))]⟩,
        ⟨some 12, none, .alloc [.val (.int .i64 0), .val (.int .i64 0)]⟩,
        ⟨none, none, .store [none, none] (.t 12) (.t 37)⟩])
    (.seq (.seq (.reg [⟨some 38, none, .faddr (.t 11) 0⟩,
          ⟨some 39, none, .load 1 false (.t 38)⟩,
          ⟨some 40, none, .mv (.t 39)⟩,
          ⟨some 41, some (40, true), .faddr (.t 11) 1⟩,
          ⟨some 42, some (40, true), .load 1 false (.t 41)⟩,
          ⟨some 43, some (40, true), .bin .eql (.t 42) (.c (.val (.int .i64 0)))⟩,
          ⟨some 44, none, .pick (.t 40) (.t 43) (.c (.val (.bool false)))⟩])
      (.cond (.t 44) (.seq (.reg [⟨some 46, none, .load 1 true (.t 7)⟩,
            ⟨some 47, none, .faddr (.t 11) 2⟩,
            ⟨some 48, none, .load 2 true (.t 47)⟩,
            ⟨some 49, none, .call 18 [.lent [some 3], .lent []] [.t 46, .t 48]⟩,
            ⟨some 45, none, .mv (.t 49)⟩,
            ⟨some 50, none, .extract (.t 45) 0⟩,
            ⟨some 51, none, .extract (.t 45) 1⟩,
            ⟨some 13, none, .alloc [.nil]⟩,
            ⟨none, none, .store [some 3] (.t 13) (.t 50)⟩,
            ⟨some 14, none, .mv (.t 51)⟩])
        (.seq (.reg [⟨some 52, none, .mv (.t 14)⟩])
        (.cond (.t 52) (.seq (.reg [⟨some 53, none, .load 1 true (.t 13)⟩,
              ⟨none, none, .store [some 3] (.t 7) (.t 53)⟩])
          (.reg [⟨some 54, none, .faddr (.t 12) 0⟩,
            ⟨none, none, .store [none] (.t 54) (.c (.val (.int .i64 (-1))))⟩]))
        (.skip))))
      (.skip)))
    (.seq (.seq (.reg [⟨some 55, none, .faddr (.t 11) 0⟩,
          ⟨some 56, none, .load 1 false (.t 55)⟩,
          ⟨some 57, none, .un .not (.t 56)⟩,
          ⟨some 58, none, .mv (.t 57)⟩,
          ⟨some 59, some (58, true), .faddr (.t 11) 2⟩,
          ⟨some 60, some (58, true), .load 2 true (.t 59)⟩,
          ⟨some 61, some (58, true), .build [.val (.int .i64 0), .val (.int .i64 0)] []⟩,
          ⟨some 62, some (58, true), .eqv false [0, 0] (.t 60) (.t 61)⟩,
          ⟨some 63, none, .pick (.t 58) (.t 62) (.c (.val (.bool false)))⟩])
      (.cond (.t 63) (.seq (.reg [⟨some 65, none, .load 1 true (.t 7)⟩,
            ⟨some 66, none, .faddr (.t 11) 1⟩,
            ⟨some 67, none, .load 1 false (.t 66)⟩,
            ⟨some 68, none, .call 22 [.lent [some 3], .lent []] [.t 65, .t 67]⟩,
            ⟨some 64, none, .mv (.t 68)⟩,
            ⟨some 69, none, .extract (.t 64) 0⟩,
            ⟨some 70, none, .extract (.t 64) 1⟩,
            ⟨some 71, none, .extract (.t 64) 2⟩,
            ⟨some 15, none, .alloc [.nil]⟩,
            ⟨some 16, none, .alloc [.val (.int .i64 0), .val (.int .i64 0)]⟩,
            ⟨none, none, .store [some 3] (.t 15) (.t 69)⟩,
            ⟨none, none, .store [none, none] (.t 16) (.t 70)⟩,
            ⟨some 17, none, .mv (.t 71)⟩])
        (.seq (.reg [⟨some 72, none, .mv (.t 17)⟩])
        (.cond (.t 72) (.seq (.reg [⟨some 73, none, .load 1 true (.t 15)⟩,
              ⟨none, none, .store [some 3] (.t 7) (.t 73)⟩])
          (.reg [⟨some 74, none, .load 2 true (.t 16)⟩,
            ⟨none, none, .store [none, none] (.t 12) (.t 74)⟩]))
        (.skip))))
      (.skip)))
    (.reg [⟨some 75, none, .mv (.t 9)⟩,
      ⟨some 76, none, .load 2 true (.t 12)⟩,
      ⟨some 77, none, .bslice [none, none] [[.val (.int .i64 0), .val (.int .i64 0)]] [(0, .t 76)]⟩,
      ⟨some 78, none, .append 2 16 (.t 75) (.t 77)⟩,
      ⟨some 9, none, .mv (.t 78)⟩]))))))
  (.reg [⟨some 79, none, .bin .add (.t 33) (.c (.val (.int .i64 1)))⟩,
    ⟨some 33, none, .mv (.t 79)⟩])))
@[simp] def K_spec_PlayBook_2 : Keep := ⟨[((4, 0), []), ((7, 0), []), ((9, 0), [some 2]), ((31, 0), [some 4]), ((32, 0), []), ((33, 0), []), ((4, 1), [some 3]), ((7, 1), [some 3])], [4, 7], []⟩
def L_spec_PlayBook_6 : IC := .loop K_spec_PlayBook_2 B_spec_PlayBook_6
def C_spec_PlayBook : IC := .seq (.reg [⟨some 4, none, .alloc [.nil]⟩,
      ⟨some 5, none, .mv (.c (.nil))⟩,
      ⟨some 6, none, .mv (.c (.val (.bool false)))⟩])
  (.seq (.reg [⟨some 19, none, .mv (.t 0)⟩,
      ⟨some 20, none, .call 32 [.lent []] [.t 19]⟩,
      ⟨some 18, none, .mv (.t 20)⟩,
      ⟨some 21, none, .extract (.t 18) 0⟩,
      ⟨some 22, none, .extract (.t 18) 1⟩,
      ⟨some 7, none, .alloc [.nil]⟩,
      ⟨none, none, .store [some 3] (.t 7) (.t 21)⟩,
      ⟨some 8, none, .mv (.t 22)⟩])
  (.seq (.seq (.reg [⟨some 23, none, .mv (.t 8)⟩,
        ⟨some 24, none, .un .not (.t 23)⟩,
        ⟨some 25, none, .mv (.t 24)⟩,
        ⟨some 26, some (25, false), .mv (.t 1)⟩,
        ⟨some 27, some (25, false), .len (.t 26)⟩,
        ⟨some 28, some (25, false), .bin .gtr (.t 27) (.c (.val (.int .i64 60)))⟩,
        ⟨some 29, none, .pick (.t 25) (.c (.val (.bool true))) (.t 28)⟩])
    (.cond (.t 29) (.seq (.reg [⟨some 30, none, .build [.nil] []⟩,
          ⟨none, none, .store [some 3] (.t 4) (.t 30)⟩,
          ⟨some 5, none, .mv (.c (.nil))⟩,
          ⟨some 6, none, .mv (.c (.val (.bool false)))⟩])
      (.ret K_spec_PlayBook_0))
    (.skip)))
  (.seq (.reg [⟨some 9, none, .mv (.c (.nil))⟩])
  (.seq (.seq (.reg [⟨some 31, none, .mv (.t 1)⟩,
        ⟨some 32, none, .len (.t 31)⟩,
        ⟨some 33, none, .mv (.c (.val (.int .i64 0)))⟩])
    (.block 0 (L_spec_PlayBook_6)))
  (.seq (.reg [⟨some 80, none, .load 1 true (.t 7)⟩,
      ⟨some 81, none, .call 51 [.lent [some 3]] [.t 80]⟩,
      ⟨some 82, none, .mv (.t 9)⟩,
      ⟨none, none, .store [some 3] (.t 4) (.t 81)⟩,
      ⟨some 5, none, .mv (.t 82)⟩,
      ⟨some 6, none, .mv (.c (.val (.bool true)))⟩])
  (.ret K_spec_PlayBook_0))))))
def f_spec_PlayBook : IFn := ⟨2, [(.cell 4 1 true, [some 3]), (.t 5, [some 2]), (.t 6, [])], [], C_spec_PlayBook⟩
/-! 36 loop.example/g00627/laws.sameHandles -/
@[simp] def K_laws_sameHandles_0 : Keep := ⟨[((4, 0), [])], [], []⟩
@[simp] def K_laws_sameHandles_1 : Keep := ⟨[], [], []⟩
def B_laws_sameHandles_4 : IC := .seq (.reg [⟨some 14, none, .bin .lss (.t 13) (.t 12)⟩])
  (.seq (.cond (.t 14) (.skip)
    (.exit 0 K_laws_sameHandles_1))
  (.seq (.block 1 (.seq (.reg [⟨some 15, none, .mv (.t 13)⟩,
        ⟨some 5, none, .mv (.t 15)⟩])
    (.seq (.dreg [⟨⟨some 16, none, .mv (.t 0)⟩, 0, [], []⟩,
        ⟨⟨some 17, none, .mv (.t 5)⟩, 1, [], []⟩,
        ⟨⟨some 18, none, .iaddr 2 (.t 16) (.t 17)⟩, 2, [], []⟩,
        ⟨⟨some 19, none, .load 2 true (.t 18)⟩, 3, [], []⟩,
        ⟨⟨some 20, none, .mv (.t 1)⟩, 4, [], []⟩,
        ⟨⟨some 21, none, .mv (.t 5)⟩, 5, [], []⟩,
        ⟨⟨some 22, none, .iaddr 2 (.t 20) (.t 21)⟩, 6, [], []⟩,
        ⟨⟨some 23, none, .load 2 true (.t 22)⟩, 7, [], []⟩,
        ⟨⟨some 24, none, .eqv true [0, 0] (.t 19) (.t 23)⟩, 8, [], []⟩])
    (.cond (.t 24) (.seq (.reg [⟨some 4, none, .mv (.c (.val (.bool false)))⟩])
      (.ret K_laws_sameHandles_0))
    (.skip)))))
  (.reg [⟨some 25, none, .bin .add (.t 13) (.c (.val (.int .i64 1)))⟩,
    ⟨some 13, none, .mv (.t 25)⟩])))
@[simp] def K_laws_sameHandles_2 : Keep := ⟨[((0, 0), [some 2]), ((1, 0), [some 2]), ((12, 0), []), ((13, 0), [])], [], []⟩
def L_laws_sameHandles_4 : IC := .loop K_laws_sameHandles_2 B_laws_sameHandles_4
def C_laws_sameHandles : IC := .seq (.reg [⟨some 4, none, .mv (.c (.val (.bool false)))⟩])
  (.seq (.seq (.reg [⟨some 6, none, .mv (.t 0)⟩,
        ⟨some 7, none, .len (.t 6)⟩,
        ⟨some 8, none, .mv (.t 1)⟩,
        ⟨some 9, none, .len (.t 8)⟩,
        ⟨some 10, none, .bin .neq (.t 7) (.t 9)⟩])
    (.cond (.t 10) (.seq (.reg [⟨some 4, none, .mv (.c (.val (.bool false)))⟩])
      (.ret K_laws_sameHandles_0))
    (.skip)))
  (.seq (.seq (.reg [⟨some 11, none, .mv (.t 0)⟩,
        ⟨some 12, none, .len (.t 11)⟩,
        ⟨some 13, none, .mv (.c (.val (.int .i64 0)))⟩])
    (.block 0 (L_laws_sameHandles_4)))
  (.seq (.reg [⟨some 4, none, .mv (.c (.val (.bool true)))⟩])
  (.ret K_laws_sameHandles_0))))
def f_laws_sameHandles : IFn := ⟨2, [(.t 4, [])], [], C_laws_sameHandles⟩
/-! 37 loop.example/g00627/spec.DrawLeftFor -/
@[simp] def K_spec_DrawLeftFor_0 : Keep := ⟨[((2, 0), []), ((2, 1), [some 3])], [2], []⟩
def C_spec_DrawLeftFor : IC := .seq (.reg [⟨some 2, none, .alloc [.nil]⟩])
  (.seq (.reg [⟨some 3, none, .mv (.t 0)⟩,
      ⟨some 4, none, .call 64 [.lent [some 1]] [.t 3]⟩,
      ⟨none, none, .store [some 3] (.t 2) (.t 4)⟩])
  (.ret K_spec_DrawLeftFor_0))
def f_spec_DrawLeftFor : IFn := ⟨1, [(.cell 2 1 true, [some 3])], [], C_spec_DrawLeftFor⟩
/-! 38 loop.example/g00627/laws.szHandleStepS -/
@[simp] def K_laws_szHandleStepS_0 : Keep := ⟨[((4, 0), [])], [], []⟩
def C_laws_szHandleStepS : IC := .seq (.reg [⟨some 4, none, .mv (.c (.val (.int .i64 0)))⟩])
  (.seq (.reg [⟨some 5, none, .mv (.t 1)⟩,
      ⟨some 6, none, .mv (.t 0)⟩,
      ⟨some 7, none, .len (.t 6)⟩,
      ⟨some 8, none, .bin .sub (.t 5) (.t 7)⟩,
      ⟨some 1, none, .mv (.t 8)⟩])
  (.seq (.seq (.reg [⟨some 9, none, .mv (.t 1)⟩,
        ⟨some 10, none, .bin .lss (.t 9) (.c (.val (.int .i64 0)))⟩])
    (.cond (.t 10) (.seq (.reg [⟨some 4, none, .mv (.c (.val (.int .i64 (-1))))⟩])
      (.ret K_laws_szHandleStepS_0))
    (.skip)))
  (.seq (.reg [⟨some 11, none, .mv (.t 1)⟩,
      ⟨some 4, none, .mv (.t 11)⟩])
  (.ret K_laws_szHandleStepS_0))))
def f_laws_szHandleStepS : IFn := ⟨2, [(.t 4, [])], [], C_laws_szHandleStepS⟩
/-! 39 loop.example/g00627/laws.toHandleStepS -/
@[simp] def K_laws_toHandleStepS_0 : Keep := ⟨[((3, 0), [some 4])], [], []⟩
def B_laws_toHandleStepS_3 : IC := .seq (.seq (.reg [⟨some 8, none, .mv (.t 4)⟩,
        ⟨some 9, none, .mv (.t 0)⟩,
        ⟨some 10, none, .len (.t 9)⟩,
        ⟨some 11, none, .bin .lss (.t 8) (.t 10)⟩])
    (.cond (.t 11) (.skip)
    (.exit 0 K_laws_toHandleStepS_0)))
  (.seq (.block 1 (.reg [⟨some 14, none, .mv (.t 3)⟩,
      ⟨some 15, none, .mv (.t 4)⟩,
      ⟨some 16, none, .mv (.t 0)⟩,
      ⟨some 17, none, .mv (.t 4)⟩,
      ⟨some 18, none, .iaddr 4 (.t 16) (.t 17)⟩,
      ⟨some 19, none, .load 4 true (.t 18)⟩,
      ⟨some 20, none, .call 65 [.lent []] [.t 19]⟩,
      ⟨some 21, none, .iaddr 4 (.t 14) (.t 15)⟩,
      ⟨none, none, .store [none, none, none, none] (.t 21) (.t 20)⟩]))
  (.reg [⟨some 12, none, .mv (.t 4)⟩,
    ⟨some 13, none, .bin .add (.t 12) (.c (.val (.int .i64 1)))⟩,
    ⟨some 4, none, .mv (.t 13)⟩]))
@[simp] def K_laws_toHandleStepS_1 : Keep := ⟨[((0, 0), [some 4]), ((3, 0), [some 4]), ((4, 0), [])], [], []⟩
def L_laws_toHandleStepS_3 : IC := .loop K_laws_toHandleStepS_1 B_laws_toHandleStepS_3
@[simp] def K_laws_toHandleStepS_2 : Keep := ⟨[((2, 0), [some 4])], [], []⟩
def C_laws_toHandleStepS : IC := .seq (.reg [⟨some 2, none, .mv (.c (.nil))⟩])
  (.seq (.reg [⟨some 5, none, .mv (.t 0)⟩,
      ⟨some 6, none, .len (.t 5)⟩,
      ⟨some 7, none, .mkslice 4 32 [.val (.bool false), .val (.int .i64 0), .val (.int .i64 0), .val (.int .i64 0)] (.t 6) (.t 6)⟩,
      ⟨some 3, none, .mv (.t 7)⟩])
  (.seq (.seq (.reg [⟨some 4, none, .mv (.c (.val (.int .i64 0)))⟩])
    (.block 0 (L_laws_toHandleStepS_3)))
  (.seq (.reg [⟨some 22, none, .mv (.t 3)⟩,
      ⟨some 2, none, .mv (.t 22)⟩])
  (.ret K_laws_toHandleStepS_2))))
def f_laws_toHandleStepS : IFn := ⟨1, [(.t 2, [some 4])], [], C_laws_toHandleStepS⟩
/-! 40 loop.example/g00627/laws.eqHandleS -/
@[simp] def K_laws_eqHandleS_0 : Keep := ⟨[((4, 0), [])], [], []⟩
@[simp] def K_laws_eqHandleS_1 : Keep := ⟨[], [], []⟩
def B_laws_eqHandleS_4 : IC := .seq (.seq (.reg [⟨some 11, none, .mv (.t 5)⟩,
        ⟨some 12, none, .mv (.t 0)⟩,
        ⟨some 13, none, .len (.t 12)⟩,
        ⟨some 14, none, .bin .lss (.t 11) (.t 13)⟩])
    (.cond (.t 14) (.skip)
    (.exit 0 K_laws_eqHandleS_1)))
  (.seq (.block 1 (.seq (.dreg [⟨⟨some 17, none, .mv (.t 0)⟩, 0, [], []⟩,
        ⟨⟨some 18, none, .mv (.t 5)⟩, 1, [], []⟩,
        ⟨⟨some 19, none, .iaddr 2 (.t 17) (.t 18)⟩, 2, [], []⟩,
        ⟨⟨some 20, none, .load 2 true (.t 19)⟩, 3, [], []⟩,
        ⟨⟨some 21, none, .mv (.t 1)⟩, 4, [], []⟩,
        ⟨⟨some 22, none, .mv (.t 5)⟩, 5, [], []⟩,
        ⟨⟨some 23, none, .iaddr 2 (.t 21) (.t 22)⟩, 6, [], []⟩,
        ⟨⟨some 24, none, .load 2 true (.t 23)⟩, 7, [], []⟩,
        ⟨⟨some 25, none, .call 24 [.lent [], .lent []] [.t 20, .t 24]⟩, 8, [], []⟩,
        ⟨⟨some 26, none, .un .not (.t 25)⟩, 9, [], []⟩])
    (.cond (.t 26) (.seq (.reg [⟨some 4, none, .mv (.c (.val (.bool false)))⟩])
      (.ret K_laws_eqHandleS_0))
    (.skip))))
  (.reg [⟨some 15, none, .mv (.t 5)⟩,
    ⟨some 16, none, .bin .add (.t 15) (.c (.val (.int .i64 1)))⟩,
    ⟨some 5, none, .mv (.t 16)⟩]))
@[simp] def K_laws_eqHandleS_2 : Keep := ⟨[((0, 0), [some 2]), ((1, 0), [some 2]), ((5, 0), [])], [], []⟩
def L_laws_eqHandleS_4 : IC := .loop K_laws_eqHandleS_2 B_laws_eqHandleS_4
def C_laws_eqHandleS : IC := .seq (.reg [⟨some 4, none, .mv (.c (.val (.bool false)))⟩])
  (.seq (.seq (.reg [⟨some 6, none, .mv (.t 0)⟩,
        ⟨some 7, none, .len (.t 6)⟩,
        ⟨some 8, none, .mv (.t 1)⟩,
        ⟨some 9, none, .len (.t 8)⟩,
        ⟨some 10, none, .bin .neq (.t 7) (.t 9)⟩])
    (.cond (.t 10) (.seq (.reg [⟨some 4, none, .mv (.c (.val (.bool false)))⟩])
      (.ret K_laws_eqHandleS_0))
    (.skip)))
  (.seq (.seq (.reg [⟨some 5, none, .mv (.c (.val (.int .i64 0)))⟩])
    (.block 0 (L_laws_eqHandleS_4)))
  (.seq (.reg [⟨some 4, none, .mv (.c (.val (.bool true)))⟩])
  (.ret K_laws_eqHandleS_0))))
def f_laws_eqHandleS : IFn := ⟨2, [(.t 4, [])], [], C_laws_eqHandleS⟩
/-! 41 loop.example/g00627/laws.eqHandleStepS -/
@[simp] def K_laws_eqHandleStepS_0 : Keep := ⟨[((4, 0), [])], [], []⟩
@[simp] def K_laws_eqHandleStepS_1 : Keep := ⟨[], [], []⟩
def B_laws_eqHandleStepS_4 : IC := .seq (.seq (.reg [⟨some 11, none, .mv (.t 5)⟩,
        ⟨some 12, none, .mv (.t 0)⟩,
        ⟨some 13, none, .len (.t 12)⟩,
        ⟨some 14, none, .bin .lss (.t 11) (.t 13)⟩])
    (.cond (.t 14) (.skip)
    (.exit 0 K_laws_eqHandleStepS_1)))
  (.seq (.block 1 (.seq (.dreg [⟨⟨some 17, none, .mv (.t 0)⟩, 0, [], []⟩,
        ⟨⟨some 18, none, .mv (.t 5)⟩, 1, [], []⟩,
        ⟨⟨some 19, none, .iaddr 4 (.t 17) (.t 18)⟩, 2, [], []⟩,
        ⟨⟨some 20, none, .load 4 true (.t 19)⟩, 3, [], []⟩,
        ⟨⟨some 21, none, .mv (.t 1)⟩, 4, [], []⟩,
        ⟨⟨some 22, none, .mv (.t 5)⟩, 5, [], []⟩,
        ⟨⟨some 23, none, .iaddr 4 (.t 21) (.t 22)⟩, 6, [], []⟩,
        ⟨⟨some 24, none, .load 4 true (.t 23)⟩, 7, [], []⟩,
        ⟨⟨some 25, none, .call 66 [.lent [], .lent []] [.t 20, .t 24]⟩, 8, [], []⟩,
        ⟨⟨some 26, none, .un .not (.t 25)⟩, 9, [], []⟩])
    (.cond (.t 26) (.seq (.reg [⟨some 4, none, .mv (.c (.val (.bool false)))⟩])
      (.ret K_laws_eqHandleStepS_0))
    (.skip))))
  (.reg [⟨some 15, none, .mv (.t 5)⟩,
    ⟨some 16, none, .bin .add (.t 15) (.c (.val (.int .i64 1)))⟩,
    ⟨some 5, none, .mv (.t 16)⟩]))
@[simp] def K_laws_eqHandleStepS_2 : Keep := ⟨[((0, 0), [some 4]), ((1, 0), [some 4]), ((5, 0), [])], [], []⟩
def L_laws_eqHandleStepS_4 : IC := .loop K_laws_eqHandleStepS_2 B_laws_eqHandleStepS_4
def C_laws_eqHandleStepS : IC := .seq (.reg [⟨some 4, none, .mv (.c (.val (.bool false)))⟩])
  (.seq (.seq (.reg [⟨some 6, none, .mv (.t 0)⟩,
        ⟨some 7, none, .len (.t 6)⟩,
        ⟨some 8, none, .mv (.t 1)⟩,
        ⟨some 9, none, .len (.t 8)⟩,
        ⟨some 10, none, .bin .neq (.t 7) (.t 9)⟩])
    (.cond (.t 10) (.seq (.reg [⟨some 4, none, .mv (.c (.val (.bool false)))⟩])
      (.ret K_laws_eqHandleStepS_0))
    (.skip)))
  (.seq (.seq (.reg [⟨some 5, none, .mv (.c (.val (.int .i64 0)))⟩])
    (.block 0 (L_laws_eqHandleStepS_4)))
  (.seq (.reg [⟨some 4, none, .mv (.c (.val (.bool true)))⟩])
  (.ret K_laws_eqHandleStepS_0))))
def f_laws_eqHandleStepS : IFn := ⟨2, [(.t 4, [])], [], C_laws_eqHandleStepS⟩
/-! 42 loop.example/g00627/laws.markHandleStepS -/
@[simp] def K_laws_markHandleStepS_0 : Keep := ⟨[((0, 0), [some 4]), ((1, 0), [])], [], [(0, 0)]⟩
def B_laws_markHandleStepS_2 : IC := .seq (.seq (.reg [⟨some 6, none, .mv (.t 5)⟩,
        ⟨some 7, none, .mv (.t 0)⟩,
        ⟨some 8, none, .len (.t 7)⟩,
        ⟨some 9, none, .bin .lss (.t 6) (.t 8)⟩])
    (.cond (.t 9) (.skip)
    (.exit 0 K_laws_markHandleStepS_0)))
  (.seq (.block 1 (.seq (.reg [⟨some 12, none, .mv (.t 0)⟩,
        ⟨some 13, none, .mv (.t 5)⟩,
        ⟨some 14, none, .mv (.t 1)⟩,
        ⟨some 15, none, .bin .rem (.t 14) (.c (.val (.int .i64 3)))⟩,
        ⟨some 16, none, .bin .eql (.t 15) (.c (.val (.int .i64 0)))⟩,
        ⟨some 17, none, .iaddr 4 (.t 12) (.t 13)⟩,
        ⟨some 18, none, .faddr (.t 17) 0⟩,
        ⟨none, none, .store [none] (.t 18) (.t 16)⟩])
    (.seq (.reg [⟨some 19, none, .mv (.t 1)⟩,
        ⟨some 20, none, .bin .add (.t 19) (.c (.val (.int .i64 1)))⟩,
        ⟨some 1, none, .mv (.t 20)⟩])
    (.seq (.reg [⟨some 21, none, .mv (.t 0)⟩,
        ⟨some 22, none, .mv (.t 5)⟩,
        ⟨some 23, none, .mv (.t 1)⟩,
        ⟨some 24, none, .iaddr 4 (.t 21) (.t 22)⟩,
        ⟨some 25, none, .faddr (.t 24) 1⟩,
        ⟨none, none, .store [none] (.t 25) (.t 23)⟩])
    (.seq (.reg [⟨some 26, none, .mv (.t 1)⟩,
        ⟨some 27, none, .bin .add (.t 26) (.c (.val (.int .i64 1)))⟩,
        ⟨some 1, none, .mv (.t 27)⟩])
    (.seq (.reg [⟨some 28, none, .mv (.t 0)⟩,
        ⟨some 29, none, .mv (.t 5)⟩,
        ⟨some 30, none, .mv (.t 1)⟩,
        ⟨some 31, none, .iaddr 4 (.t 28) (.t 29)⟩,
        ⟨some 32, none, .faddr (.t 31) 2⟩,
        ⟨some 33, none, .faddr (.t 32) 0⟩,
        ⟨none, none, .store [none] (.t 33) (.t 30)⟩])
    (.seq (.reg [⟨some 34, none, .mv (.t 1)⟩,
        ⟨some 35, none, .bin .add (.t 34) (.c (.val (.int .i64 1)))⟩,
        ⟨some 1, none, .mv (.t 35)⟩])
    (.seq (.reg [⟨some 36, none, .mv (.t 0)⟩,
        ⟨some 37, none, .mv (.t 5)⟩,
        ⟨some 38, none, .mv (.t 1)⟩,
        ⟨some 39, none, .iaddr 4 (.t 36) (.t 37)⟩,
        ⟨some 40, none, .faddr (.t 39) 2⟩,
        ⟨some 41, none, .faddr (.t 40) 1⟩,
        ⟨none, none, .store [none] (.t 41) (.t 38)⟩])
    (.reg [⟨some 42, none, .mv (.t 1)⟩,
      ⟨some 43, none, .bin .add (.t 42) (.c (.val (.int .i64 1)))⟩,
      ⟨some 1, none, .mv (.t 43)⟩])))))))))
  (.reg [⟨some 10, none, .mv (.t 5)⟩,
    ⟨some 11, none, .bin .add (.t 10) (.c (.val (.int .i64 1)))⟩,
    ⟨some 5, none, .mv (.t 11)⟩]))
@[simp] def K_laws_markHandleStepS_1 : Keep := ⟨[((0, 0), [some 4]), ((1, 0), []), ((5, 0), [])], [], [(0, 0)]⟩
def L_laws_markHandleStepS_2 : IC := .loop K_laws_markHandleStepS_1 B_laws_markHandleStepS_2
@[simp] def K_laws_markHandleStepS_2 : Keep := ⟨[((0, 0), [some 4]), ((4, 0), [])], [], [(0, 0)]⟩
def C_laws_markHandleStepS : IC := .seq (.reg [⟨some 4, none, .mv (.c (.val (.int .i64 0)))⟩])
  (.seq (.seq (.reg [⟨some 5, none, .mv (.c (.val (.int .i64 0)))⟩])
    (.block 0 (L_laws_markHandleStepS_2)))
  (.seq (.reg [⟨some 44, none, .mv (.t 1)⟩,
      ⟨some 4, none, .mv (.t 44)⟩])
  (.ret K_laws_markHandleStepS_2)))
def f_laws_markHandleStepS : IFn := ⟨2, [(.t 4, [])], [(0, .row [some 4])], C_laws_markHandleStepS⟩
/-! 43 loop.example/g00627/laws.markHandleS -/
@[simp] def K_laws_markHandleS_0 : Keep := ⟨[((0, 0), [some 2]), ((1, 0), [])], [], [(0, 0)]⟩
def B_laws_markHandleS_2 : IC := .seq (.seq (.reg [⟨some 6, none, .mv (.t 5)⟩,
        ⟨some 7, none, .mv (.t 0)⟩,
        ⟨some 8, none, .len (.t 7)⟩,
        ⟨some 9, none, .bin .lss (.t 6) (.t 8)⟩])
    (.cond (.t 9) (.skip)
    (.exit 0 K_laws_markHandleS_0)))
  (.seq (.block 1 (.seq (.reg [⟨some 12, none, .mv (.t 0)⟩,
        ⟨some 13, none, .mv (.t 5)⟩,
        ⟨some 14, none, .mv (.t 1)⟩,
        ⟨some 15, none, .iaddr 2 (.t 12) (.t 13)⟩,
        ⟨some 16, none, .faddr (.t 15) 0⟩,
        ⟨none, none, .store [none] (.t 16) (.t 14)⟩])
    (.seq (.reg [⟨some 17, none, .mv (.t 1)⟩,
        ⟨some 18, none, .bin .add (.t 17) (.c (.val (.int .i64 1)))⟩,
        ⟨some 1, none, .mv (.t 18)⟩])
    (.seq (.reg [⟨some 19, none, .mv (.t 0)⟩,
        ⟨some 20, none, .mv (.t 5)⟩,
        ⟨some 21, none, .mv (.t 1)⟩,
        ⟨some 22, none, .iaddr 2 (.t 19) (.t 20)⟩,
        ⟨some 23, none, .faddr (.t 22) 1⟩,
        ⟨none, none, .store [none] (.t 23) (.t 21)⟩])
    (.reg [⟨some 24, none, .mv (.t 1)⟩,
      ⟨some 25, none, .bin .add (.t 24) (.c (.val (.int .i64 1)))⟩,
      ⟨some 1, none, .mv (.t 25)⟩])))))
  (.reg [⟨some 10, none, .mv (.t 5)⟩,
    ⟨some 11, none, .bin .add (.t 10) (.c (.val (.int .i64 1)))⟩,
    ⟨some 5, none, .mv (.t 11)⟩]))
@[simp] def K_laws_markHandleS_1 : Keep := ⟨[((0, 0), [some 2]), ((1, 0), []), ((5, 0), [])], [], [(0, 0)]⟩
def L_laws_markHandleS_2 : IC := .loop K_laws_markHandleS_1 B_laws_markHandleS_2
@[simp] def K_laws_markHandleS_2 : Keep := ⟨[((0, 0), [some 2]), ((4, 0), [])], [], [(0, 0)]⟩
def C_laws_markHandleS : IC := .seq (.reg [⟨some 4, none, .mv (.c (.val (.int .i64 0)))⟩])
  (.seq (.seq (.reg [⟨some 5, none, .mv (.c (.val (.int .i64 0)))⟩])
    (.block 0 (L_laws_markHandleS_2)))
  (.seq (.reg [⟨some 26, none, .mv (.t 1)⟩,
      ⟨some 4, none, .mv (.t 26)⟩])
  (.ret K_laws_markHandleS_2)))
def f_laws_markHandleS : IFn := ⟨2, [(.t 4, [])], [(0, .row [some 2])], C_laws_markHandleS⟩
/-! 44 loop.example/g00627/laws.heldHandleS -/
@[simp] def K_laws_heldHandleS_0 : Keep := ⟨[((1, 0), [])], [], []⟩
@[simp] def K_laws_heldHandleS_1 : Keep := ⟨[((4, 0), [])], [], []⟩
def B_laws_heldHandleS_2 : IC := .seq (.seq (.reg [⟨some 6, none, .mv (.t 5)⟩,
        ⟨some 7, none, .mv (.t 0)⟩,
        ⟨some 8, none, .len (.t 7)⟩,
        ⟨some 9, none, .bin .lss (.t 6) (.t 8)⟩])
    (.cond (.t 9) (.skip)
    (.exit 0 K_laws_heldHandleS_0)))
  (.seq (.block 1 (.seq (.seq (.reg [⟨some 12, none, .mv (.t 0)⟩,
          ⟨some 13, none, .mv (.t 5)⟩,
          ⟨some 14, none, .iaddr 2 (.t 12) (.t 13)⟩,
          ⟨some 15, none, .faddr (.t 14) 0⟩,
          ⟨some 16, none, .load 1 false (.t 15)⟩,
          ⟨some 17, none, .mv (.t 1)⟩,
          ⟨some 18, none, .bin .neq (.t 16) (.t 17)⟩])
      (.cond (.t 18) (.seq (.reg [⟨some 4, none, .mv (.c (.val (.int .i64 (-1))))⟩])
        (.ret K_laws_heldHandleS_1))
      (.skip)))
    (.seq (.reg [⟨some 19, none, .mv (.t 1)⟩,
        ⟨some 20, none, .bin .add (.t 19) (.c (.val (.int .i64 1)))⟩,
        ⟨some 1, none, .mv (.t 20)⟩])
    (.seq (.seq (.reg [⟨some 21, none, .mv (.t 0)⟩,
          ⟨some 22, none, .mv (.t 5)⟩,
          ⟨some 23, none, .iaddr 2 (.t 21) (.t 22)⟩,
          ⟨some 24, none, .faddr (.t 23) 1⟩,
          ⟨some 25, none, .load 1 false (.t 24)⟩,
          ⟨some 26, none, .mv (.t 1)⟩,
          ⟨some 27, none, .bin .neq (.t 25) (.t 26)⟩])
      (.cond (.t 27) (.seq (.reg [⟨some 4, none, .mv (.c (.val (.int .i64 (-1))))⟩])
        (.ret K_laws_heldHandleS_1))
      (.skip)))
    (.reg [⟨some 28, none, .mv (.t 1)⟩,
      ⟨some 29, none, .bin .add (.t 28) (.c (.val (.int .i64 1)))⟩,
      ⟨some 1, none, .mv (.t 29)⟩])))))
  (.reg [⟨some 10, none, .mv (.t 5)⟩,
    ⟨some 11, none, .bin .add (.t 10) (.c (.val (.int .i64 1)))⟩,
    ⟨some 5, none, .mv (.t 11)⟩]))
@[simp] def K_laws_heldHandleS_2 : Keep := ⟨[((0, 0), [some 2]), ((1, 0), []), ((5, 0), [])], [], []⟩
def L_laws_heldHandleS_2 : IC := .loop K_laws_heldHandleS_2 B_laws_heldHandleS_2
def C_laws_heldHandleS : IC := .seq (.reg [⟨some 4, none, .mv (.c (.val (.int .i64 0)))⟩])
  (.seq (.seq (.reg [⟨some 5, none, .mv (.c (.val (.int .i64 0)))⟩])
    (.block 0 (L_laws_heldHandleS_2)))
  (.seq (.reg [⟨some 30, none, .mv (.t 1)⟩,
      ⟨some 4, none, .mv (.t 30)⟩])
  (.ret K_laws_heldHandleS_1)))
def f_laws_heldHandleS : IFn := ⟨2, [(.t 4, [])], [], C_laws_heldHandleS⟩
/-! 45 loop.example/g00627/laws.szSlotS -/
@[simp] def K_laws_szSlotS_0 : Keep := ⟨[((4, 0), [])], [], []⟩
def C_laws_szSlotS : IC := .seq (.reg [⟨some 4, none, .mv (.c (.val (.int .i64 0)))⟩])
  (.seq (.reg [⟨some 5, none, .mv (.t 1)⟩,
      ⟨some 6, none, .mv (.t 0)⟩,
      ⟨some 7, none, .len (.t 6)⟩,
      ⟨some 8, none, .bin .sub (.t 5) (.t 7)⟩,
      ⟨some 1, none, .mv (.t 8)⟩])
  (.seq (.seq (.reg [⟨some 9, none, .mv (.t 1)⟩,
        ⟨some 10, none, .bin .lss (.t 9) (.c (.val (.int .i64 0)))⟩])
    (.cond (.t 10) (.seq (.reg [⟨some 4, none, .mv (.c (.val (.int .i64 (-1))))⟩])
      (.ret K_laws_szSlotS_0))
    (.skip)))
  (.seq (.reg [⟨some 11, none, .mv (.t 1)⟩,
      ⟨some 4, none, .mv (.t 11)⟩])
  (.ret K_laws_szSlotS_0))))
def f_laws_szSlotS : IFn := ⟨2, [(.t 4, [])], [], C_laws_szSlotS⟩
/-! 46 loop.example/g00627/spec.l16Holds -/
@[simp] def K_spec_l16Holds_0 : Keep := ⟨[((4, 0), [])], [], []⟩
def C_spec_l16Holds : IC := .seq (.reg [⟨some 2, none, .box 1 (.t 0)⟩,
      ⟨some 3, none, .box 2 (.t 1)⟩,
      ⟨some 4, none, .mv (.c (.val (.bool false)))⟩])
  (.seq (.dreg [⟨⟨some 5, none, .load 1 true (.t 2)⟩, 0, [], []⟩,
      ⟨⟨some 6, none, .call 28 [.lent [some 3]] [.t 5]⟩, 1, [], []⟩,
      ⟨⟨some 7, none, .mv (.t 6)⟩, 2, [], []⟩,
      ⟨⟨some 8, some (7, true), .faddr (.t 3) 0⟩, 3, [], []⟩,
      ⟨⟨some 9, some (7, true), .load 1 false (.t 8)⟩, 4, [], []⟩,
      ⟨⟨some 10, some (7, true), .faddr (.t 2) 0⟩, 5, [], []⟩,
      ⟨⟨some 11, some (7, true), .load 1 false (.t 10)⟩, 6, [], []⟩,
      ⟨⟨some 12, some (7, true), .len (.t 11)⟩, 7, [], []⟩,
      ⟨⟨some 13, some (7, true), .bin .sub (.t 12) (.c (.val (.int .i64 1)))⟩, 8, [], []⟩,
      ⟨⟨some 14, some (7, true), .call 55 [.lent [], .lent [], .lent []] [.t 9, .c (.val (.int .i64 0)), .t 13]⟩, 9, [], []⟩,
      ⟨⟨some 15, none, .pick (.t 7) (.t 14) (.c (.val (.bool false)))⟩, 10, [], []⟩,
      ⟨⟨some 16, none, .mv (.t 15)⟩, 11, [], []⟩,
      ⟨⟨some 17, some (16, true), .faddr (.t 2) 0⟩, 12, [], []⟩,
      ⟨⟨some 18, some (16, true), .load 1 false (.t 17)⟩, 13, [], []⟩,
      ⟨⟨some 19, some (16, true), .faddr (.t 3) 0⟩, 14, [], []⟩,
      ⟨⟨some 20, some (16, true), .load 1 false (.t 19)⟩, 15, [], []⟩,
      ⟨⟨some 21, some (16, true), .iaddr 3 (.t 18) (.t 20)⟩, 16, [], []⟩,
      ⟨⟨some 22, some (16, true), .faddr (.t 21) 1⟩, 17, [], []⟩,
      ⟨⟨some 23, some (16, true), .load 1 false (.t 22)⟩, 18, [], []⟩,
      ⟨⟨some 24, none, .pick (.t 16) (.t 23) (.c (.val (.bool false)))⟩, 19, [], []⟩,
      ⟨⟨some 25, none, .mv (.t 24)⟩, 20, [], []⟩,
      ⟨⟨some 26, some (25, true), .faddr (.t 2) 0⟩, 21, [], []⟩,
      ⟨⟨some 27, some (25, true), .load 1 false (.t 26)⟩, 22, [], []⟩,
      ⟨⟨some 28, some (25, true), .faddr (.t 3) 0⟩, 23, [], []⟩,
      ⟨⟨some 29, some (25, true), .load 1 false (.t 28)⟩, 24, [], []⟩,
      ⟨⟨some 30, some (25, true), .iaddr 3 (.t 27) (.t 29)⟩, 25, [], []⟩,
      ⟨⟨some 31, some (25, true), .faddr (.t 30) 0⟩, 26, [], []⟩,
      ⟨⟨some 32, some (25, true), .load 1 false (.t 31)⟩, 27, [], []⟩,
      ⟨⟨some 33, some (25, true), .faddr (.t 3) 1⟩, 28, [], []⟩,
      ⟨⟨some 34, some (25, true), .load 1 false (.t 33)⟩, 29, [], []⟩,
      ⟨⟨some 35, some (25, true), .bin .eql (.t 32) (.t 34)⟩, 30, [], []⟩,
      ⟨⟨some 36, none, .pick (.t 25) (.t 35) (.c (.val (.bool false)))⟩, 31, [], []⟩,
      ⟨⟨some 4, none, .mv (.t 36)⟩, 32, [], []⟩])
  (.ret K_spec_l16Holds_0))
def f_spec_l16Holds : IFn := ⟨2, [(.t 4, [])], [], C_spec_l16Holds⟩
/-! 47 loop.example/g00627/laws.toSlotS -/
@[simp] def K_laws_toSlotS_0 : Keep := ⟨[((3, 0), [some 3])], [], []⟩
def B_laws_toSlotS_3 : IC := .seq (.seq (.reg [⟨some 8, none, .mv (.t 4)⟩,
        ⟨some 9, none, .mv (.t 0)⟩,
        ⟨some 10, none, .len (.t 9)⟩,
        ⟨some 11, none, .bin .lss (.t 8) (.t 10)⟩])
    (.cond (.t 11) (.skip)
    (.exit 0 K_laws_toSlotS_0)))
  (.seq (.block 1 (.reg [⟨some 14, none, .mv (.t 3)⟩,
      ⟨some 15, none, .mv (.t 4)⟩,
      ⟨some 16, none, .mv (.t 0)⟩,
      ⟨some 17, none, .mv (.t 4)⟩,
      ⟨some 18, none, .iaddr 3 (.t 16) (.t 17)⟩,
      ⟨some 19, none, .load 3 true (.t 18)⟩,
      ⟨some 20, none, .call 67 [.lent []] [.t 19]⟩,
      ⟨some 21, none, .iaddr 3 (.t 14) (.t 15)⟩,
      ⟨none, none, .store [none, none, none] (.t 21) (.t 20)⟩]))
  (.reg [⟨some 12, none, .mv (.t 4)⟩,
    ⟨some 13, none, .bin .add (.t 12) (.c (.val (.int .i64 1)))⟩,
    ⟨some 4, none, .mv (.t 13)⟩]))
@[simp] def K_laws_toSlotS_1 : Keep := ⟨[((0, 0), [some 3]), ((3, 0), [some 3]), ((4, 0), [])], [], []⟩
def L_laws_toSlotS_3 : IC := .loop K_laws_toSlotS_1 B_laws_toSlotS_3
@[simp] def K_laws_toSlotS_2 : Keep := ⟨[((2, 0), [some 3])], [], []⟩
def C_laws_toSlotS : IC := .seq (.reg [⟨some 2, none, .mv (.c (.nil))⟩])
  (.seq (.reg [⟨some 5, none, .mv (.t 0)⟩,
      ⟨some 6, none, .len (.t 5)⟩,
      ⟨some 7, none, .mkslice 3 24 [.val (.int .i64 0), .val (.bool false), .val (.int .i64 0)] (.t 6) (.t 6)⟩,
      ⟨some 3, none, .mv (.t 7)⟩])
  (.seq (.seq (.reg [⟨some 4, none, .mv (.c (.val (.int .i64 0)))⟩])
    (.block 0 (L_laws_toSlotS_3)))
  (.seq (.reg [⟨some 22, none, .mv (.t 3)⟩,
      ⟨some 2, none, .mv (.t 22)⟩])
  (.ret K_laws_toSlotS_2))))
def f_laws_toSlotS : IFn := ⟨1, [(.t 2, [some 3])], [], C_laws_toSlotS⟩
/-! 48 loop.example/g00627/impl.isBook -/
@[simp] def K_impl_isBook_0 : Keep := ⟨[((2, 0), [])], [], []⟩
def C_impl_isBook : IC := .seq (.reg [⟨some 1, none, .box 1 (.t 0)⟩,
      ⟨some 2, none, .mv (.c (.val (.bool false)))⟩])
  (.seq (.reg [⟨some 3, none, .faddr (.t 1) 0⟩,
      ⟨some 4, none, .load 1 false (.t 3)⟩,
      ⟨some 5, none, .len (.t 4)⟩,
      ⟨some 6, none, .call 56 [.lent [], .lent [], .lent []] [.t 5, .c (.val (.int .i64 1)), .c (.val (.int .i64 6))]⟩,
      ⟨some 7, none, .mv (.t 6)⟩,
      ⟨some 8, some (7, true), .faddr (.t 1) 0⟩,
      ⟨some 9, some (7, true), .load 1 false (.t 8)⟩,
      ⟨some 10, some (7, true), .call 68 [.lent [some 3], .lent []] [.t 9, .c (.fn 69 [])]⟩,
      ⟨some 11, some (7, true), .un .not (.t 10)⟩,
      ⟨some 12, none, .pick (.t 7) (.t 11) (.c (.val (.bool false)))⟩,
      ⟨some 2, none, .mv (.t 12)⟩])
  (.ret K_impl_isBook_0))
def f_impl_isBook : IFn := ⟨1, [(.t 2, [])], [], C_impl_isBook⟩
/-! 49 (loop.example/g00627/impl.Book).has -/
@[simp] def K_impl_Book_has_0 : Keep := ⟨[((4, 0), [])], [], []⟩
def C_impl_Book_has : IC := .seq (.reg [⟨some 2, none, .box 1 (.t 0)⟩,
      ⟨some 3, none, .box 2 (.t 1)⟩,
      ⟨some 4, none, .mv (.c (.val (.bool false)))⟩])
  (.seq (.dreg [⟨⟨some 5, none, .faddr (.t 3) 0⟩, 0, [], []⟩,
      ⟨⟨some 6, none, .load 1 false (.t 5)⟩, 1, [], []⟩,
      ⟨⟨some 7, none, .faddr (.t 2) 0⟩, 2, [], []⟩,
      ⟨⟨some 8, none, .load 1 false (.t 7)⟩, 3, [], []⟩,
      ⟨⟨some 9, none, .len (.t 8)⟩, 4, [], []⟩,
      ⟨⟨some 10, none, .bin .sub (.t 9) (.c (.val (.int .i64 1)))⟩, 5, [], []⟩,
      ⟨⟨some 11, none, .call 56 [.lent [], .lent [], .lent []] [.t 6, .c (.val (.int .i64 0)), .t 10]⟩, 6, [], []⟩,
      ⟨⟨some 12, none, .mv (.t 11)⟩, 7, [], []⟩,
      ⟨⟨some 13, some (12, true), .faddr (.t 2) 0⟩, 8, [], []⟩,
      ⟨⟨some 14, some (12, true), .load 1 false (.t 13)⟩, 9, [], []⟩,
      ⟨⟨some 15, some (12, true), .faddr (.t 3) 0⟩, 10, [], []⟩,
      ⟨⟨some 16, some (12, true), .load 1 false (.t 15)⟩, 11, [], []⟩,
      ⟨⟨some 17, some (12, true), .iaddr 3 (.t 14) (.t 16)⟩, 12, [], []⟩,
      ⟨⟨some 18, some (12, true), .faddr (.t 17) 1⟩, 13, [], []⟩,
      ⟨⟨some 19, some (12, true), .load 1 false (.t 18)⟩, 14, [], []⟩,
      ⟨⟨some 20, none, .pick (.t 12) (.t 19) (.c (.val (.bool false)))⟩, 15, [], []⟩,
      ⟨⟨some 21, none, .mv (.t 20)⟩, 16, [], []⟩,
      ⟨⟨some 22, some (21, true), .faddr (.t 2) 0⟩, 17, [], []⟩,
      ⟨⟨some 23, some (21, true), .load 1 false (.t 22)⟩, 18, [], []⟩,
      ⟨⟨some 24, some (21, true), .faddr (.t 3) 0⟩, 19, [], []⟩,
      ⟨⟨some 25, some (21, true), .load 1 false (.t 24)⟩, 20, [], []⟩,
      ⟨⟨some 26, some (21, true), .iaddr 3 (.t 23) (.t 25)⟩, 21, [], []⟩,
      ⟨⟨some 27, some (21, true), .faddr (.t 26) 0⟩, 22, [], []⟩,
      ⟨⟨some 28, some (21, true), .load 1 false (.t 27)⟩, 23, [], []⟩,
      ⟨⟨some 29, some (21, true), .faddr (.t 3) 1⟩, 24, [], []⟩,
      ⟨⟨some 30, some (21, true), .load 1 false (.t 29)⟩, 25, [], []⟩,
      ⟨⟨some 31, some (21, true), .bin .eql (.t 28) (.t 30)⟩, 26, [], []⟩,
      ⟨⟨some 32, none, .pick (.t 21) (.t 31) (.c (.val (.bool false)))⟩, 27, [], []⟩,
      ⟨⟨some 4, none, .mv (.t 32)⟩, 28, [], []⟩])
  (.ret K_impl_Book_has_0))
def f_impl_Book_has : IFn := ⟨2, [(.t 4, [])], [], C_impl_Book_has⟩
/-! 50 loop.example/g00627/laws.eqSlotS -/
@[simp] def K_laws_eqSlotS_0 : Keep := ⟨[((4, 0), [])], [], []⟩
@[simp] def K_laws_eqSlotS_1 : Keep := ⟨[], [], []⟩
def B_laws_eqSlotS_4 : IC := .seq (.seq (.reg [⟨some 11, none, .mv (.t 5)⟩,
        ⟨some 12, none, .mv (.t 0)⟩,
        ⟨some 13, none, .len (.t 12)⟩,
        ⟨some 14, none, .bin .lss (.t 11) (.t 13)⟩])
    (.cond (.t 14) (.skip)
    (.exit 0 K_laws_eqSlotS_1)))
  (.seq (.block 1 (.seq (.dreg [⟨⟨some 17, none, .mv (.t 0)⟩, 0, [], []⟩,
        ⟨⟨some 18, none, .mv (.t 5)⟩, 1, [], []⟩,
        ⟨⟨some 19, none, .iaddr 3 (.t 17) (.t 18)⟩, 2, [], []⟩,
        ⟨⟨some 20, none, .load 3 true (.t 19)⟩, 3, [], []⟩,
        ⟨⟨some 21, none, .mv (.t 1)⟩, 4, [], []⟩,
        ⟨⟨some 22, none, .mv (.t 5)⟩, 5, [], []⟩,
        ⟨⟨some 23, none, .iaddr 3 (.t 21) (.t 22)⟩, 6, [], []⟩,
        ⟨⟨some 24, none, .load 3 true (.t 23)⟩, 7, [], []⟩,
        ⟨⟨some 25, none, .call 70 [.lent [], .lent []] [.t 20, .t 24]⟩, 8, [], []⟩,
        ⟨⟨some 26, none, .un .not (.t 25)⟩, 9, [], []⟩])
    (.cond (.t 26) (.seq (.reg [⟨some 4, none, .mv (.c (.val (.bool false)))⟩])
      (.ret K_laws_eqSlotS_0))
    (.skip))))
  (.reg [⟨some 15, none, .mv (.t 5)⟩,
    ⟨some 16, none, .bin .add (.t 15) (.c (.val (.int .i64 1)))⟩,
    ⟨some 5, none, .mv (.t 16)⟩]))
@[simp] def K_laws_eqSlotS_2 : Keep := ⟨[((0, 0), [some 3]), ((1, 0), [some 3]), ((5, 0), [])], [], []⟩
def L_laws_eqSlotS_4 : IC := .loop K_laws_eqSlotS_2 B_laws_eqSlotS_4
def C_laws_eqSlotS : IC := .seq (.reg [⟨some 4, none, .mv (.c (.val (.bool false)))⟩])
  (.seq (.seq (.reg [⟨some 6, none, .mv (.t 0)⟩,
        ⟨some 7, none, .len (.t 6)⟩,
        ⟨some 8, none, .mv (.t 1)⟩,
        ⟨some 9, none, .len (.t 8)⟩,
        ⟨some 10, none, .bin .neq (.t 7) (.t 9)⟩])
    (.cond (.t 10) (.seq (.reg [⟨some 4, none, .mv (.c (.val (.bool false)))⟩])
      (.ret K_laws_eqSlotS_0))
    (.skip)))
  (.seq (.seq (.reg [⟨some 5, none, .mv (.c (.val (.int .i64 0)))⟩])
    (.block 0 (L_laws_eqSlotS_4)))
  (.seq (.reg [⟨some 4, none, .mv (.c (.val (.bool true)))⟩])
  (.ret K_laws_eqSlotS_0))))
def f_laws_eqSlotS : IFn := ⟨2, [(.t 4, [])], [], C_laws_eqSlotS⟩
/-! 51 loop.example/g00627/spec.l16Own -/
@[simp] def K_spec_l16Own_0 : Keep := ⟨[((2, 0), []), ((2, 1), [some 3])], [2], []⟩
def C_spec_l16Own : IC := .seq (.reg [⟨some 1, none, .box 1 (.t 0)⟩,
      ⟨some 2, none, .alloc [.nil]⟩])
  (.seq (.reg [⟨some 3, none, .bslice [none, none, none] [] []⟩,
      ⟨some 4, none, .faddr (.t 1) 0⟩,
      ⟨some 5, none, .load 1 false (.t 4)⟩,
      ⟨some 6, none, .append 3 24 (.t 3) (.t 5)⟩,
      ⟨some 7, none, .build [.nil] [(0, 1, .t 6)]⟩,
      ⟨none, none, .store [some 3] (.t 2) (.t 7)⟩])
  (.ret K_spec_l16Own_0))
def f_spec_l16Own : IFn := ⟨1, [(.cell 2 1 true, [some 3])], [], C_spec_l16Own⟩
/-! 52 slices.Clone[[]loop.example/g00627/impl.Slot,loop.example/g00627/impl.Slot] -/
@[simp] def K_slices_Clone_Slot_0 : Keep := ⟨[((2, 0), [some 3])], [], []⟩
def C_slices_Clone_Slot : IC := .seq (.reg [⟨some 2, none, .mv (.c (.nil))⟩])
  (.seq (.seq (.reg [⟨some 3, none, .mv (.t 0)⟩,
        ⟨some 4, none, .eqn false (.t 3) (.c (.nil))⟩])
    (.cond (.t 4) (.seq (.reg [⟨some 2, none, .mv (.c (.nil))⟩])
      (.ret K_slices_Clone_Slot_0))
    (.skip)))
  (.seq (.reg [⟨some 5, none, .bslice [none, none, none] [] []⟩,
      ⟨some 6, none, .mv (.t 0)⟩,
      ⟨some 7, none, .append 3 24 (.t 5) (.t 6)⟩,
      ⟨some 2, none, .mv (.t 7)⟩])
  (.ret K_slices_Clone_Slot_0)))
def f_slices_Clone_Slot : IFn := ⟨1, [(.t 2, [some 3])], [], C_slices_Clone_Slot⟩
/-! 53 loop.example/g00627/laws.markSlotS -/
@[simp] def K_laws_markSlotS_0 : Keep := ⟨[((0, 0), [some 3]), ((1, 0), [])], [], [(0, 0)]⟩
def B_laws_markSlotS_2 : IC := .seq (.seq (.reg [⟨some 6, none, .mv (.t 5)⟩,
        ⟨some 7, none, .mv (.t 0)⟩,
        ⟨some 8, none, .len (.t 7)⟩,
        ⟨some 9, none, .bin .lss (.t 6) (.t 8)⟩])
    (.cond (.t 9) (.skip)
    (.exit 0 K_laws_markSlotS_0)))
  (.seq (.block 1 (.seq (.reg [⟨some 12, none, .mv (.t 0)⟩,
        ⟨some 13, none, .mv (.t 5)⟩,
        ⟨some 14, none, .mv (.t 1)⟩,
        ⟨some 15, none, .iaddr 3 (.t 12) (.t 13)⟩,
        ⟨some 16, none, .faddr (.t 15) 0⟩,
        ⟨none, none, .store [none] (.t 16) (.t 14)⟩])
    (.seq (.reg [⟨some 17, none, .mv (.t 1)⟩,
        ⟨some 18, none, .bin .add (.t 17) (.c (.val (.int .i64 1)))⟩,
        ⟨some 1, none, .mv (.t 18)⟩])
    (.seq (.reg [⟨some 19, none, .mv (.t 0)⟩,
        ⟨some 20, none, .mv (.t 5)⟩,
        ⟨some 21, none, .mv (.t 1)⟩,
        ⟨some 22, none, .bin .rem (.t 21) (.c (.val (.int .i64 3)))⟩,
        ⟨some 23, none, .bin .eql (.t 22) (.c (.val (.int .i64 0)))⟩,
        ⟨some 24, none, .iaddr 3 (.t 19) (.t 20)⟩,
        ⟨some 25, none, .faddr (.t 24) 1⟩,
        ⟨none, none, .store [none] (.t 25) (.t 23)⟩])
    (.seq (.reg [⟨some 26, none, .mv (.t 1)⟩,
        ⟨some 27, none, .bin .add (.t 26) (.c (.val (.int .i64 1)))⟩,
        ⟨some 1, none, .mv (.t 27)⟩])
    (.seq (.reg [⟨some 28, none, .mv (.t 0)⟩,
        ⟨some 29, none, .mv (.t 5)⟩,
        ⟨some 30, none, .mv (.t 1)⟩,
        ⟨some 31, none, .iaddr 3 (.t 28) (.t 29)⟩,
        ⟨some 32, none, .faddr (.t 31) 2⟩,
        ⟨none, none, .store [none] (.t 32) (.t 30)⟩])
    (.reg [⟨some 33, none, .mv (.t 1)⟩,
      ⟨some 34, none, .bin .add (.t 33) (.c (.val (.int .i64 1)))⟩,
      ⟨some 1, none, .mv (.t 34)⟩])))))))
  (.reg [⟨some 10, none, .mv (.t 5)⟩,
    ⟨some 11, none, .bin .add (.t 10) (.c (.val (.int .i64 1)))⟩,
    ⟨some 5, none, .mv (.t 11)⟩]))
@[simp] def K_laws_markSlotS_1 : Keep := ⟨[((0, 0), [some 3]), ((1, 0), []), ((5, 0), [])], [], [(0, 0)]⟩
def L_laws_markSlotS_2 : IC := .loop K_laws_markSlotS_1 B_laws_markSlotS_2
@[simp] def K_laws_markSlotS_2 : Keep := ⟨[((0, 0), [some 3]), ((4, 0), [])], [], [(0, 0)]⟩
def C_laws_markSlotS : IC := .seq (.reg [⟨some 4, none, .mv (.c (.val (.int .i64 0)))⟩])
  (.seq (.seq (.reg [⟨some 5, none, .mv (.c (.val (.int .i64 0)))⟩])
    (.block 0 (L_laws_markSlotS_2)))
  (.seq (.reg [⟨some 35, none, .mv (.t 1)⟩,
      ⟨some 4, none, .mv (.t 35)⟩])
  (.ret K_laws_markSlotS_2)))
def f_laws_markSlotS : IFn := ⟨2, [(.t 4, [])], [(0, .row [some 3])], C_laws_markSlotS⟩
/-! 54 loop.example/g00627/laws.heldSlotS -/
@[simp] def K_laws_heldSlotS_0 : Keep := ⟨[((1, 0), [])], [], []⟩
@[simp] def K_laws_heldSlotS_1 : Keep := ⟨[((4, 0), [])], [], []⟩
def B_laws_heldSlotS_2 : IC := .seq (.seq (.reg [⟨some 6, none, .mv (.t 5)⟩,
        ⟨some 7, none, .mv (.t 0)⟩,
        ⟨some 8, none, .len (.t 7)⟩,
        ⟨some 9, none, .bin .lss (.t 6) (.t 8)⟩])
    (.cond (.t 9) (.skip)
    (.exit 0 K_laws_heldSlotS_0)))
  (.seq (.block 1 (.seq (.seq (.reg [⟨some 12, none, .mv (.t 0)⟩,
          ⟨some 13, none, .mv (.t 5)⟩,
          ⟨some 14, none, .iaddr 3 (.t 12) (.t 13)⟩,
          ⟨some 15, none, .faddr (.t 14) 0⟩,
          ⟨some 16, none, .load 1 false (.t 15)⟩,
          ⟨some 17, none, .mv (.t 1)⟩,
          ⟨some 18, none, .bin .neq (.t 16) (.t 17)⟩])
      (.cond (.t 18) (.seq (.reg [⟨some 4, none, .mv (.c (.val (.int .i64 (-1))))⟩])
        (.ret K_laws_heldSlotS_1))
      (.skip)))
    (.seq (.reg [⟨some 19, none, .mv (.t 1)⟩,
        ⟨some 20, none, .bin .add (.t 19) (.c (.val (.int .i64 1)))⟩,
        ⟨some 1, none, .mv (.t 20)⟩])
    (.seq (.seq (.reg [⟨some 21, none, .mv (.t 0)⟩,
          ⟨some 22, none, .mv (.t 5)⟩,
          ⟨some 23, none, .iaddr 3 (.t 21) (.t 22)⟩,
          ⟨some 24, none, .faddr (.t 23) 1⟩,
          ⟨some 25, none, .load 1 false (.t 24)⟩,
          ⟨some 26, none, .mv (.t 1)⟩,
          ⟨some 27, none, .bin .rem (.t 26) (.c (.val (.int .i64 3)))⟩,
          ⟨some 28, none, .bin .eql (.t 27) (.c (.val (.int .i64 0)))⟩,
          ⟨some 29, none, .beq true (.t 25) (.t 28)⟩])
      (.cond (.t 29) (.seq (.reg [⟨some 4, none, .mv (.c (.val (.int .i64 (-1))))⟩])
        (.ret K_laws_heldSlotS_1))
      (.skip)))
    (.seq (.reg [⟨some 30, none, .mv (.t 1)⟩,
        ⟨some 31, none, .bin .add (.t 30) (.c (.val (.int .i64 1)))⟩,
        ⟨some 1, none, .mv (.t 31)⟩])
    (.seq (.seq (.reg [⟨some 32, none, .mv (.t 0)⟩,
          ⟨some 33, none, .mv (.t 5)⟩,
          ⟨some 34, none, .iaddr 3 (.t 32) (.t 33)⟩,
          ⟨some 35, none, .faddr (.t 34) 2⟩,
          ⟨some 36, none, .load 1 false (.t 35)⟩,
          ⟨some 37, none, .mv (.t 1)⟩,
          ⟨some 38, none, .bin .neq (.t 36) (.t 37)⟩])
      (.cond (.t 38) (.seq (.reg [⟨some 4, none, .mv (.c (.val (.int .i64 (-1))))⟩])
        (.ret K_laws_heldSlotS_1))
      (.skip)))
    (.reg [⟨some 39, none, .mv (.t 1)⟩,
      ⟨some 40, none, .bin .add (.t 39) (.c (.val (.int .i64 1)))⟩,
      ⟨some 1, none, .mv (.t 40)⟩])))))))
  (.reg [⟨some 10, none, .mv (.t 5)⟩,
    ⟨some 11, none, .bin .add (.t 10) (.c (.val (.int .i64 1)))⟩,
    ⟨some 5, none, .mv (.t 11)⟩]))
@[simp] def K_laws_heldSlotS_2 : Keep := ⟨[((0, 0), [some 3]), ((1, 0), []), ((5, 0), [])], [], []⟩
def L_laws_heldSlotS_2 : IC := .loop K_laws_heldSlotS_2 B_laws_heldSlotS_2
def C_laws_heldSlotS : IC := .seq (.reg [⟨some 4, none, .mv (.c (.val (.int .i64 0)))⟩])
  (.seq (.seq (.reg [⟨some 5, none, .mv (.c (.val (.int .i64 0)))⟩])
    (.block 0 (L_laws_heldSlotS_2)))
  (.seq (.reg [⟨some 41, none, .mv (.t 1)⟩,
      ⟨some 4, none, .mv (.t 41)⟩])
  (.ret K_laws_heldSlotS_1)))
def f_laws_heldSlotS : IFn := ⟨2, [(.t 4, [])], [], C_laws_heldSlotS⟩
/-! 55 loop.example/g00627/spec.l1In -/
@[simp] def K_spec_l1In_0 : Keep := ⟨[((6, 0), [])], [], []⟩
def C_spec_l1In : IC := .seq (.reg [⟨some 6, none, .mv (.c (.val (.bool false)))⟩])
  (.seq (.reg [⟨some 7, none, .mv (.t 0)⟩,
      ⟨some 8, none, .mv (.t 1)⟩,
      ⟨some 9, none, .bin .geq (.t 7) (.t 8)⟩,
      ⟨some 10, none, .mv (.t 9)⟩,
      ⟨some 11, some (10, true), .mv (.t 0)⟩,
      ⟨some 12, some (10, true), .mv (.t 2)⟩,
      ⟨some 13, some (10, true), .bin .leq (.t 11) (.t 12)⟩,
      ⟨some 14, none, .pick (.t 10) (.t 13) (.c (.val (.bool false)))⟩,
      ⟨some 6, none, .mv (.t 14)⟩])
  (.ret K_spec_l1In_0))
def f_spec_l1In : IFn := ⟨3, [(.t 6, [])], [], C_spec_l1In⟩
/-! 56 loop.example/g00627/impl.within -/
@[simp] def K_impl_within_0 : Keep := ⟨[((6, 0), [])], [], []⟩
def C_impl_within : IC := .seq (.reg [⟨some 6, none, .mv (.c (.val (.bool false)))⟩])
  (.seq (.reg [⟨some 7, none, .mv (.t 0)⟩,
      ⟨some 8, none, .mv (.t 1)⟩,
      ⟨some 9, none, .bin .geq (.t 7) (.t 8)⟩,
      ⟨some 10, none, .mv (.t 9)⟩,
      ⟨some 11, some (10, true), .mv (.t 0)⟩,
      ⟨some 12, some (10, true), .mv (.t 2)⟩,
      ⟨some 13, some (10, true), .bin .leq (.t 11) (.t 12)⟩,
      ⟨some 14, none, .pick (.t 10) (.t 13) (.c (.val (.bool false)))⟩,
      ⟨some 6, none, .mv (.t 14)⟩])
  (.ret K_impl_within_0))
def f_impl_within : IFn := ⟨3, [(.t 6, [])], [], C_impl_within⟩
/-! 57 (*loop.example/g00627/impl.Book).create -/
@[simp] def K_impl_Book_create_0 : Keep := ⟨[((0, 0), []), ((1, 0), []), ((4, 0), []), ((6, 0), []), ((4, 1), []), ((4, 2), []), ((0, 1), [some 3])], [4, 0], []⟩
def B_impl_Book_create_3 : IC := .seq (.reg [⟨some 15, none, .bin .lss (.t 14) (.t 13)⟩])
  (.seq (.cond (.t 15) (.skip)
    (.exit 0 K_impl_Book_create_0))
  (.seq (.block 1 (.seq (.reg [⟨some 16, none, .mv (.t 14)⟩,
        ⟨some 17, none, .iaddr 3 (.t 12) (.t 14)⟩,
        ⟨some 18, none, .load 3 true (.t 17)⟩,
        ⟨some 8, none, .alloc [.val (.int .i64 0), .val (.bool false), .val (.int .i64 0)]⟩,
        ⟨some 7, none, .mv (.t 16)⟩,
        ⟨none, none, .store [none, none, none] (.t 8) (.t 18)⟩])
    (.seq (.dreg [⟨⟨some 19, none, .faddr (.t 8) 1⟩, 0, [], []⟩,
        ⟨⟨some 20, none, .load 1 false (.t 19)⟩, 1, [], []⟩,
        ⟨⟨some 21, none, .un .not (.t 20)⟩, 2, [], []⟩,
        ⟨⟨some 22, none, .mv (.t 21)⟩, 3, [], []⟩,
        ⟨⟨some 23, some (22, true), .faddr (.t 8) 0⟩, 4, [], []⟩,
        ⟨⟨some 24, some (22, true), .load 1 false (.t 23)⟩, 5, [], []⟩,
        ⟨⟨some 25, some (22, true), .bin .lss (.t 24) (.c (.val (.int .i64 8)))⟩, 6, [], []⟩,
        ⟨⟨some 26, none, .pick (.t 22) (.t 25) (.c (.val (.bool false)))⟩, 7, [], []⟩,
        ⟨⟨some 27, none, .mv (.t 26)⟩, 8, [], []⟩,
        ⟨⟨some 28, some (27, true), .mv (.t 6)⟩, 9, [], []⟩,
        ⟨⟨some 29, some (27, true), .bin .lss (.t 28) (.c (.val (.int .i64 0)))⟩, 10, [], []⟩,
        ⟨⟨some 30, some (27, true), .mv (.t 29)⟩, 11, [], []⟩,
        ⟨⟨some 31, some (30, false), .faddr (.t 8) 0⟩, 12, [], []⟩,
        ⟨⟨some 32, some (30, false), .load 1 false (.t 31)⟩, 13, [], []⟩,
        ⟨⟨some 33, some (30, false), .mv (.t 0)⟩, 14, [], []⟩,
        ⟨⟨some 34, some (30, false), .nilchk (.t 33)⟩, 15, [], []⟩,
        ⟨⟨some 35, some (30, false), .faddr (.t 34) 0⟩, 16, [], []⟩,
        ⟨⟨some 36, some (30, false), .load 1 false (.t 35)⟩, 17, [], []⟩,
        ⟨⟨some 37, some (30, false), .mv (.t 6)⟩, 18, [], []⟩,
        ⟨⟨some 38, some (30, false), .iaddr 3 (.t 36) (.t 37)⟩, 19, [], []⟩,
        ⟨⟨some 39, some (30, false), .faddr (.t 38) 0⟩, 20, [], []⟩,
        ⟨⟨some 40, some (30, false), .load 1 false (.t 39)⟩, 21, [], []⟩,
        ⟨⟨some 41, some (30, false), .bin .lss (.t 32) (.t 40)⟩, 22, [], []⟩,
        ⟨⟨some 42, some (27, true), .pick (.t 30) (.c (.val (.bool true))) (.t 41)⟩, 23, [], []⟩,
        ⟨⟨some 43, none, .pick (.t 27) (.t 42) (.c (.val (.bool false)))⟩, 24, [], []⟩])
    (.cond (.t 43) (.reg [⟨some 44, none, .mv (.t 7)⟩,
        ⟨some 6, none, .mv (.t 44)⟩])
    (.skip)))))
  (.reg [⟨some 45, none, .bin .add (.t 14) (.c (.val (.int .i64 1)))⟩,
    ⟨some 14, none, .mv (.t 45)⟩])))
@[simp] def K_impl_Book_create_1 : Keep := ⟨[((0, 0), []), ((1, 0), []), ((4, 0), []), ((6, 0), []), ((12, 0), [some 3]), ((13, 0), []), ((14, 0), []), ((4, 1), []), ((4, 2), []), ((0, 1), [some 3])], [4, 0], []⟩
def L_impl_Book_create_3 : IC := .loop K_impl_Book_create_1 B_impl_Book_create_3
@[simp] def K_impl_Book_create_2 : Keep := ⟨[((0, 0), []), ((4, 0), []), ((5, 0), []), ((4, 1), []), ((4, 2), []), ((0, 1), [some 3])], [4, 0], []⟩
def C_impl_Book_create : IC := .seq (.reg [⟨some 4, none, .alloc [.val (.int .i64 0), .val (.int .i64 0)]⟩,
      ⟨some 5, none, .mv (.c (.val (.bool false)))⟩])
  (.seq (.reg [⟨some 6, none, .mv (.c (.val (.int .i64 (-1))))⟩])
  (.seq (.seq (.reg [⟨some 9, none, .mv (.t 0)⟩,
        ⟨some 10, none, .nilchk (.t 9)⟩,
        ⟨some 11, none, .faddr (.t 10) 0⟩,
        ⟨some 12, none, .load 1 false (.t 11)⟩,
        ⟨some 13, none, .len (.t 12)⟩,
        ⟨some 14, none, .mv (.c (.val (.int .i64 0)))⟩])
    (.block 0 (L_impl_Book_create_3)))
  (.seq (.seq (.reg [⟨some 46, none, .mv (.t 6)⟩,
        ⟨some 47, none, .bin .lss (.t 46) (.c (.val (.int .i64 0)))⟩])
    (.cond (.t 47) (.seq (.reg [⟨some 48, none, .build [.val (.int .i64 0), .val (.int .i64 0)] []⟩,
          ⟨none, none, .store [none, none] (.t 4) (.t 48)⟩,
          ⟨some 5, none, .mv (.c (.val (.bool false)))⟩])
      (.ret K_impl_Book_create_2))
    (.skip)))
  (.seq (.dreg [⟨⟨some 49, none, .mv (.t 0)⟩, 0, [], []⟩,
      ⟨⟨some 50, none, .nilchk (.t 49)⟩, 1, [], []⟩,
      ⟨⟨some 51, none, .faddr (.t 50) 0⟩, 2, [], []⟩,
      ⟨⟨some 52, none, .load 1 false (.t 51)⟩, 3, [], []⟩,
      ⟨⟨some 53, none, .mv (.t 6)⟩, 4, [], []⟩,
      ⟨⟨some 54, none, .mv (.t 0)⟩, 5, [], []⟩,
      ⟨⟨some 55, none, .nilchk (.t 54)⟩, 6, [], []⟩,
      ⟨⟨some 56, none, .faddr (.t 55) 0⟩, 7, [], []⟩,
      ⟨⟨some 57, none, .load 1 false (.t 56)⟩, 8, [], []⟩,
      ⟨⟨some 58, none, .mv (.t 6)⟩, 9, [], []⟩,
      ⟨⟨some 59, none, .mv (.t 1)⟩, 10, [], []⟩,
      ⟨⟨some 60, none, .iaddr 3 (.t 52) (.t 53)⟩, 11, [], []⟩,
      ⟨⟨some 61, none, .faddr (.t 60) 1⟩, 12, [], []⟩,
      ⟨⟨none, none, .store [none] (.t 61) (.c (.val (.bool true)))⟩, 13, [], []⟩,
      ⟨⟨some 62, none, .iaddr 3 (.t 57) (.t 58)⟩, 14, [], []⟩,
      ⟨⟨some 63, none, .faddr (.t 62) 2⟩, 15, [], []⟩,
      ⟨⟨none, none, .store [none] (.t 63) (.t 59)⟩, 16, [], []⟩])
  (.seq (.reg [⟨some 64, none, .mv (.t 6)⟩,
      ⟨some 65, none, .mv (.t 0)⟩,
      ⟨some 66, none, .nilchk (.t 65)⟩,
      ⟨some 67, none, .faddr (.t 66) 0⟩,
      ⟨some 68, none, .load 1 false (.t 67)⟩,
      ⟨some 69, none, .mv (.t 6)⟩,
      ⟨some 70, none, .iaddr 3 (.t 68) (.t 69)⟩,
      ⟨some 71, none, .faddr (.t 70) 0⟩,
      ⟨some 72, none, .load 1 false (.t 71)⟩,
      ⟨some 73, none, .build [.val (.int .i64 0), .val (.int .i64 0)] [(0, 1, .t 64), (1, 1, .t 72)]⟩,
      ⟨none, none, .store [none, none] (.t 4) (.t 73)⟩,
      ⟨some 5, none, .mv (.c (.val (.bool true)))⟩])
  (.ret K_impl_Book_create_2))))))
def f_impl_Book_create : IFn := ⟨2, [(.cell 4 2 true, []), (.t 5, [])], [(0, .cells [some 3])], C_impl_Book_create⟩
/-! 58 (*loop.example/g00627/spec.l1Cur).handleBook -/
@[simp] def K_spec_l1Cur_handleBook_0 : Keep := ⟨[((0, 0), []), ((2, 0), []), ((2, 1), [some 3]), ((0, 1), [some 1]), ((0, 2), []), ((0, 3), [])], [2, 0], []⟩
def C_spec_l1Cur_handleBook : IC := .seq (.reg [⟨some 2, none, .alloc [.nil]⟩])
  (.seq (.reg [⟨some 7, none, .mv (.t 0)⟩,
      ⟨some 8, none, .call 60 [.cells [some 1, none, none], .lent []] [.t 7, .c (.val (.int .i64 3))]⟩,
      ⟨some 9, none, .bin .add (.c (.val (.int .i64 1))) (.t 8)⟩,
      ⟨some 10, none, .mv (.t 0)⟩,
      ⟨some 11, none, .call 62 [.cells [some 1, none, none]] [.t 10]⟩,
      ⟨some 12, none, .call 35 [.lent [], .lent [some 4]] [.t 9, .t 11]⟩,
      ⟨some 6, none, .mv (.t 12)⟩,
      ⟨some 13, none, .extract (.t 6) 0⟩,
      ⟨some 14, none, .extract (.t 6) 1⟩,
      ⟨some 15, none, .extract (.t 6) 2⟩,
      ⟨some 3, none, .alloc [.nil]⟩,
      ⟨none, none, .store [some 3] (.t 3) (.t 13)⟩,
      ⟨some 4, none, .mv (.t 14)⟩,
      ⟨some 5, none, .mv (.t 15)⟩])
  (.seq (.seq (.reg [⟨some 16, none, .mv (.t 5)⟩,
        ⟨some 17, none, .un .not (.t 16)⟩])
    (.cond (.t 17) (.reg [⟨some 19, none, .call 32 [.lent []] [.c (.val (.int .i64 1))]⟩,
        ⟨some 18, none, .mv (.t 19)⟩,
        ⟨some 20, none, .extract (.t 18) 0⟩,
        ⟨some 21, none, .extract (.t 18) 1⟩,
        ⟨none, none, .store [some 3] (.t 3) (.t 20)⟩])
    (.skip)))
  (.seq (.seq (.reg [⟨some 22, none, .mv (.t 0)⟩,
        ⟨some 23, none, .call 60 [.cells [some 1, none, none], .lent []] [.t 22, .c (.val (.int .i64 20))]⟩])
    (.block 0 (.seq (.reg [⟨some 25, none, .bin .eql (.t 23) (.c (.val (.int .i64 0)))⟩,
        ⟨some 24, none, .mv (.t 25)⟩])
    (.cond (.t 24) (.dreg [⟨⟨some 26, none, .faddr (.t 3) 0⟩, 0, [], []⟩,
        ⟨⟨some 27, none, .load 1 false (.t 26)⟩, 1, [], []⟩,
        ⟨⟨some 28, none, .mv (.t 0)⟩, 2, [], []⟩,
        ⟨⟨some 29, none, .bslice [none] [[.val (.int .i64 0)], [.val (.int .i64 0)], [.val (.int .i64 0)], [.val (.int .i64 0)]] [(0, .c (.val (.int .i64 (-1)))), (1, .c (.val (.int .i64 7))), (2, .c (.val (.int .i64 8))), (3, .c (.val (.int .i64 9)))]⟩, 3, [⟨some 27, none, .load 1 false (.t 26)⟩], []⟩,
        ⟨⟨some 30, none, .call 59 [.cells [some 1, none, none], .lent [some 1]] [.t 28, .t 29]⟩, 4, [⟨some 27, none, .load 1 false (.t 26)⟩], []⟩,
        ⟨⟨some 31, none, .iaddr 3 (.t 27) (.c (.val (.int .i64 0)))⟩, 5, [], []⟩,
        ⟨⟨some 32, none, .faddr (.t 31) 0⟩, 6, [], []⟩,
        ⟨⟨none, none, .store [none] (.t 32) (.t 30)⟩, 7, [], []⟩])
    (.seq (.reg [⟨some 34, none, .bin .eql (.t 23) (.c (.val (.int .i64 1)))⟩,
          ⟨some 33, none, .mv (.t 34)⟩])
      (.cond (.t 33) (.reg [⟨some 35, none, .faddr (.t 3) 0⟩,
          ⟨some 36, none, .load 1 false (.t 35)⟩,
          ⟨some 37, none, .iaddr 3 (.t 36) (.c (.val (.int .i64 0)))⟩,
          ⟨some 38, none, .faddr (.t 37) 2⟩,
          ⟨none, none, .store [none] (.t 38) (.c (.val (.int .i64 5)))⟩])
      (.skip)))))))
  (.seq (.reg [⟨some 39, none, .load 1 true (.t 3)⟩,
      ⟨none, none, .store [some 3] (.t 2) (.t 39)⟩])
  (.ret K_spec_l1Cur_handleBook_0)))))
def f_spec_l1Cur_handleBook : IFn := ⟨1, [(.cell 2 1 true, [some 3])], [(0, .cells [some 1, none, none])], C_spec_l1Cur_handleBook⟩
/-! 59 (*loop.example/g00627/spec.l1Cur).among -/
@[simp] def K_spec_l1Cur_among_0 : Keep := ⟨[((0, 0), []), ((4, 0), []), ((0, 1), [some 1]), ((0, 2), []), ((0, 3), [])], [0], []⟩
def C_spec_l1Cur_among : IC := .seq (.reg [⟨some 4, none, .mv (.c (.val (.int .i64 0)))⟩])
  (.seq (.reg [⟨some 5, none, .mv (.t 1)⟩,
      ⟨some 6, none, .mv (.t 0)⟩,
      ⟨some 7, none, .mv (.t 1)⟩,
      ⟨some 8, none, .len (.t 7)⟩,
      ⟨some 9, none, .call 60 [.cells [some 1, none, none], .lent []] [.t 6, .t 8]⟩,
      ⟨some 10, none, .iaddr 1 (.t 5) (.t 9)⟩,
      ⟨some 11, none, .load 1 false (.t 10)⟩,
      ⟨some 4, none, .mv (.t 11)⟩])
  (.ret K_spec_l1Cur_among_0))
def f_spec_l1Cur_among : IFn := ⟨2, [(.t 4, [])], [(0, .cells [some 1, none, none])], C_spec_l1Cur_among⟩
/-! 60 (*loop.example/g00627/spec.l1Cur).pick -/
@[simp] def K_spec_l1Cur_pick_0 : Keep := ⟨[((0, 0), []), ((4, 0), []), ((0, 1), [some 1]), ((0, 2), []), ((0, 3), [])], [0], []⟩
def C_spec_l1Cur_pick : IC := .seq (.reg [⟨some 4, none, .mv (.c (.val (.int .i64 0)))⟩])
  (.seq (.seq (.reg [⟨some 6, none, .mv (.t 1)⟩,
        ⟨some 7, none, .bin .leq (.t 6) (.c (.val (.int .i64 1)))⟩])
    (.cond (.t 7) (.seq (.reg [⟨some 4, none, .mv (.c (.val (.int .i64 0)))⟩])
      (.ret K_spec_l1Cur_pick_0))
    (.skip)))
  (.seq (.reg [⟨some 8, none, .mv (.t 0)⟩,
      ⟨some 9, none, .call 71 [.cells [some 1, none, none]] [.t 8]⟩,
      ⟨some 5, none, .mv (.t 9)⟩])
  (.seq (.seq (.reg [⟨some 10, none, .mv (.t 1)⟩,
        ⟨some 11, none, .bin .gtr (.t 10) (.c (.val (.int .i64 200)))⟩])
    (.cond (.t 11) (.reg [⟨some 12, none, .mv (.t 5)⟩,
        ⟨some 13, none, .bin .mul (.t 12) (.c (.val (.int .i64 256)))⟩,
        ⟨some 14, none, .mv (.t 0)⟩,
        ⟨some 15, none, .call 71 [.cells [some 1, none, none]] [.t 14]⟩,
        ⟨some 16, none, .bin .add (.t 13) (.t 15)⟩,
        ⟨some 5, none, .mv (.t 16)⟩])
    (.skip)))
  (.seq (.reg [⟨some 17, none, .mv (.t 5)⟩,
      ⟨some 18, none, .mv (.t 1)⟩,
      ⟨some 19, none, .bin .rem (.t 17) (.t 18)⟩,
      ⟨some 4, none, .mv (.t 19)⟩])
  (.ret K_spec_l1Cur_pick_0)))))
def f_spec_l1Cur_pick : IFn := ⟨2, [(.t 4, [])], [(0, .cells [some 1, none, none])], C_spec_l1Cur_pick⟩
/-! 61 (*loop.example/g00627/spec.l1Cur).one -/
@[simp] def K_spec_l1Cur_one_0 : Keep := ⟨[((0, 0), []), ((4, 0), []), ((0, 1), [some 1]), ((0, 2), []), ((0, 3), [])], [0], []⟩
def C_spec_l1Cur_one : IC := .seq (.reg [⟨some 4, none, .mv (.c (.val (.bool false)))⟩])
  (.seq (.reg [⟨some 5, none, .mv (.t 0)⟩,
      ⟨some 6, none, .mv (.t 1)⟩,
      ⟨some 7, none, .call 60 [.cells [some 1, none, none], .lent []] [.t 5, .t 6]⟩,
      ⟨some 8, none, .bin .eql (.t 7) (.c (.val (.int .i64 0)))⟩,
      ⟨some 4, none, .mv (.t 8)⟩])
  (.ret K_spec_l1Cur_one_0))
def f_spec_l1Cur_one : IFn := ⟨2, [(.t 4, [])], [(0, .cells [some 1, none, none])], C_spec_l1Cur_one⟩
/-! 62 (*loop.example/g00627/spec.l1Cur).handleSteps -/
@[simp] def K_spec_l1Cur_handleSteps_0 : Keep := ⟨[((0, 0), []), ((3, 0), [some 4]), ((0, 1), [some 1]), ((0, 2), []), ((0, 3), [])], [0], []⟩
def B_spec_l1Cur_handleSteps_5 : IC := .seq (.seq (.reg [⟨some 13, none, .mv (.t 4)⟩,
        ⟨some 14, none, .bin .gtr (.t 13) (.c (.val (.int .i64 0)))⟩])
    (.cond (.t 14) (.skip)
    (.exit 0 K_spec_l1Cur_handleSteps_0)))
  (.seq (.block 1 (.seq (.reg [⟨some 17, none, .mv (.t 0)⟩,
        ⟨some 18, none, .call 60 [.cells [some 1, none, none], .lent []] [.t 17, .c (.val (.int .i64 9))]⟩,
        ⟨some 19, none, .build [.val (.bool false), .val (.int .i64 0), .val (.int .i64 0), .val (.int .i64 0)] [(1, 1, .t 18)]⟩,
        ⟨some 5, none, .alloc [.val (.bool false), .val (.int .i64 0), .val (.int .i64 0), .val (.int .i64 0)]⟩,
        ⟨none, none, .store [none, none, none, none] (.t 5) (.t 19)⟩])
    (.seq (.seq (.reg [⟨some 20, none, .mv (.t 0)⟩,
          ⟨some 21, none, .call 61 [.cells [some 1, none, none], .lent []] [.t 20, .c (.val (.int .i64 2))]⟩])
      (.cond (.t 21) (.reg [⟨some 22, none, .mv (.t 0)⟩,
          ⟨some 23, none, .call 60 [.cells [some 1, none, none], .lent []] [.t 22, .c (.val (.int .i64 3))]⟩,
          ⟨some 24, none, .mv (.t 0)⟩,
          ⟨some 25, none, .call 60 [.cells [some 1, none, none], .lent []] [.t 24, .c (.val (.int .i64 4))]⟩,
          ⟨some 26, none, .build [.val (.int .i64 0), .val (.int .i64 0)] [(0, 1, .t 23), (1, 1, .t 25)]⟩,
          ⟨some 27, none, .build [.val (.bool false), .val (.int .i64 0), .val (.int .i64 0), .val (.int .i64 0)] [(0, 1, .c (.val (.bool true))), (2, 2, .t 26)]⟩,
          ⟨none, none, .store [none, none, none, none] (.t 5) (.t 27)⟩])
      (.skip)))
    (.seq (.seq (.reg [⟨some 28, none, .mv (.t 0)⟩,
          ⟨some 29, none, .call 61 [.cells [some 1, none, none], .lent []] [.t 28, .c (.val (.int .i64 40))]⟩])
      (.cond (.t 29) (.reg [⟨some 30, none, .mv (.t 0)⟩,
          ⟨some 31, none, .bslice [none] [[.val (.int .i64 0)], [.val (.int .i64 0)], [.val (.int .i64 0)]] [(0, .c (.val (.int .i64 (-1)))), (1, .c (.val (.int .i64 1000))), (2, .c (.val (.int .i64 1001)))]⟩,
          ⟨some 32, none, .call 59 [.cells [some 1, none, none], .lent [some 1]] [.t 30, .t 31]⟩,
          ⟨some 33, none, .faddr (.t 5) 1⟩,
          ⟨none, none, .store [none] (.t 33) (.t 32)⟩])
      (.skip)))
    (.reg [⟨some 34, none, .mv (.t 3)⟩,
      ⟨some 35, none, .load 4 true (.t 5)⟩,
      ⟨some 36, none, .bslice [none, none, none, none] [[.val (.bool false), .val (.int .i64 0), .val (.int .i64 0), .val (.int .i64 0)]] [(0, .t 35)]⟩,
      ⟨some 37, none, .append 4 32 (.t 34) (.t 36)⟩,
      ⟨some 3, none, .mv (.t 37)⟩])))))
  (.reg [⟨some 15, none, .mv (.t 4)⟩,
    ⟨some 16, none, .bin .sub (.t 15) (.c (.val (.int .i64 1)))⟩,
    ⟨some 4, none, .mv (.t 16)⟩]))
@[simp] def K_spec_l1Cur_handleSteps_1 : Keep := ⟨[((0, 0), []), ((3, 0), [some 4]), ((4, 0), []), ((0, 1), [some 1]), ((0, 2), []), ((0, 3), [])], [0], []⟩
def L_spec_l1Cur_handleSteps_5 : IC := .loop K_spec_l1Cur_handleSteps_1 B_spec_l1Cur_handleSteps_5
@[simp] def K_spec_l1Cur_handleSteps_2 : Keep := ⟨[((0, 0), []), ((2, 0), [some 4]), ((0, 1), [some 1]), ((0, 2), []), ((0, 3), [])], [0], []⟩
def C_spec_l1Cur_handleSteps : IC := .seq (.reg [⟨some 2, none, .mv (.c (.nil))⟩])
  (.seq (.reg [⟨some 3, none, .mv (.c (.nil))⟩])
  (.seq (.reg [⟨some 6, none, .mv (.t 0)⟩,
      ⟨some 7, none, .call 60 [.cells [some 1, none, none], .lent []] [.t 6, .c (.val (.int .i64 30))]⟩,
      ⟨some 4, none, .mv (.t 7)⟩])
  (.seq (.seq (.reg [⟨some 8, none, .mv (.t 0)⟩,
        ⟨some 9, none, .call 61 [.cells [some 1, none, none], .lent []] [.t 8, .c (.val (.int .i64 20))]⟩])
    (.cond (.t 9) (.reg [⟨some 10, none, .mv (.t 0)⟩,
        ⟨some 11, none, .call 60 [.cells [some 1, none, none], .lent []] [.t 10, .c (.val (.int .i64 3))]⟩,
        ⟨some 12, none, .bin .add (.c (.val (.int .i64 59))) (.t 11)⟩,
        ⟨some 4, none, .mv (.t 12)⟩])
    (.skip)))
  (.seq (.block 0 (L_spec_l1Cur_handleSteps_5))
  (.seq (.reg [⟨some 38, none, .mv (.t 3)⟩,
      ⟨some 2, none, .mv (.t 38)⟩])
  (.ret K_spec_l1Cur_handleSteps_2))))))
def f_spec_l1Cur_handleSteps : IFn := ⟨1, [(.t 2, [some 4])], [(0, .cells [some 1, none, none])], C_spec_l1Cur_handleSteps⟩
/-! 63 (*loop.example/g00627/impl.Book).step -/
@[simp] def K_impl_Book_step_0 : Keep := ⟨[((0, 0), []), ((4, 0), []), ((4, 1), []), ((4, 2), []), ((0, 1), [some 3])], [4, 0], []⟩
def C_impl_Book_step : IC := .seq (.reg [⟨some 3, none, .box 4 (.t 1)⟩,
      ⟨some 4, none, .alloc [.val (.int .i64 0), .val (.int .i64 0)]⟩])
  (.seq (.seq (.reg [⟨some 7, none, .faddr (.t 3) 0⟩,
        ⟨some 8, none, .load 1 false (.t 7)⟩])
    (.cond (.t 8) (.seq (.seq (.dreg [⟨⟨some 9, none, .faddr (.t 3) 1⟩, 0, [], []⟩,
            ⟨⟨some 10, none, .load 1 false (.t 9)⟩, 1, [], []⟩,
            ⟨⟨some 11, none, .bin .neq (.t 10) (.c (.val (.int .i64 0)))⟩, 2, [], []⟩,
            ⟨⟨some 12, none, .mv (.t 11)⟩, 3, [], []⟩,
            ⟨⟨some 13, some (12, false), .mv (.t 0)⟩, 4, [], []⟩,
            ⟨⟨some 14, some (12, false), .nilchk (.t 13)⟩, 5, [], []⟩,
            ⟨⟨some 15, some (12, false), .load 1 true (.t 14)⟩, 6, [], []⟩,
            ⟨⟨some 16, some (12, false), .faddr (.t 3) 2⟩, 7, [], []⟩,
            ⟨⟨some 17, some (12, false), .load 2 true (.t 16)⟩, 8, [], []⟩,
            ⟨⟨some 18, some (12, false), .call 49 [.lent [some 3], .lent []] [.t 15, .t 17]⟩, 9, [], []⟩,
            ⟨⟨some 19, some (12, false), .un .not (.t 18)⟩, 10, [], []⟩,
            ⟨⟨some 20, none, .pick (.t 12) (.c (.val (.bool true))) (.t 19)⟩, 11, [], []⟩])
        (.cond (.t 20) (.seq (.reg [⟨some 21, none, .build [.val (.int .i64 0), .val (.int .i64 0)] [(0, 1, .c (.val (.int .i64 (-2))))]⟩,
              ⟨none, none, .store [none, none] (.t 4) (.t 21)⟩])
          (.ret K_impl_Book_step_0))
        (.skip)))
      (.seq (.dreg [⟨⟨some 22, none, .mv (.t 0)⟩, 0, [], []⟩,
          ⟨⟨some 23, none, .nilchk (.t 22)⟩, 1, [], []⟩,
          ⟨⟨some 24, none, .faddr (.t 23) 0⟩, 2, [], []⟩,
          ⟨⟨some 25, none, .load 1 false (.t 24)⟩, 3, [], []⟩,
          ⟨⟨some 26, none, .faddr (.t 3) 2⟩, 4, [], []⟩,
          ⟨⟨some 27, none, .faddr (.t 26) 0⟩, 5, [], []⟩,
          ⟨⟨some 28, none, .load 1 false (.t 27)⟩, 6, [], []⟩,
          ⟨⟨some 29, none, .faddr (.t 3) 2⟩, 7, [], []⟩,
          ⟨⟨some 30, none, .faddr (.t 29) 1⟩, 8, [], []⟩,
          ⟨⟨some 31, none, .load 1 false (.t 30)⟩, 9, [], []⟩,
          ⟨⟨some 32, none, .bin .add (.t 31) (.c (.val (.int .i64 1)))⟩, 10, [], []⟩,
          ⟨⟨some 33, none, .build [.val (.int .i64 0), .val (.bool false), .val (.int .i64 0)] [(0, 1, .t 32)]⟩, 11, [], []⟩,
          ⟨⟨some 34, none, .iaddr 3 (.t 25) (.t 28)⟩, 12, [], []⟩,
          ⟨⟨none, none, .store [none, none, none] (.t 34) (.t 33)⟩, 13, [], []⟩])
      (.seq (.reg [⟨some 35, none, .build [.val (.int .i64 0), .val (.int .i64 0)] [(0, 1, .c (.val (.int .i64 (-1))))]⟩,
          ⟨none, none, .store [none, none] (.t 4) (.t 35)⟩])
      (.ret K_impl_Book_step_0))))
    (.skip)))
  (.seq (.seq (.reg [⟨some 36, none, .faddr (.t 3) 2⟩,
        ⟨some 37, none, .load 2 true (.t 36)⟩,
        ⟨some 38, none, .build [.val (.int .i64 0), .val (.int .i64 0)] []⟩,
        ⟨some 39, none, .eqv true [0, 0] (.t 37) (.t 38)⟩,
        ⟨some 40, none, .mv (.t 39)⟩,
        ⟨some 41, some (40, false), .faddr (.t 3) 1⟩,
        ⟨some 42, some (40, false), .load 1 false (.t 41)⟩,
        ⟨some 43, some (40, false), .call 56 [.lent [], .lent [], .lent []] [.t 42, .c (.val (.int .i64 0)), .c (.val (.int .i64 1000))]⟩,
        ⟨some 44, some (40, false), .un .not (.t 43)⟩,
        ⟨some 45, none, .pick (.t 40) (.c (.val (.bool true))) (.t 44)⟩])
    (.cond (.t 45) (.seq (.reg [⟨some 46, none, .build [.val (.int .i64 0), .val (.int .i64 0)] [(0, 1, .c (.val (.int .i64 (-2))))]⟩,
          ⟨none, none, .store [none, none] (.t 4) (.t 46)⟩])
      (.ret K_impl_Book_step_0))
    (.skip)))
  (.seq (.reg [⟨some 48, none, .mv (.t 0)⟩,
      ⟨some 49, none, .faddr (.t 3) 1⟩,
      ⟨some 50, none, .load 1 false (.t 49)⟩,
      ⟨some 51, none, .call 57 [.cells [some 3], .lent []] [.t 48, .t 50]⟩,
      ⟨some 47, none, .mv (.t 51)⟩,
      ⟨some 52, none, .extract (.t 47) 0⟩,
      ⟨some 53, none, .extract (.t 47) 1⟩,
      ⟨some 5, none, .alloc [.val (.int .i64 0), .val (.int .i64 0)]⟩,
      ⟨none, none, .store [none, none] (.t 5) (.t 52)⟩,
      ⟨some 6, none, .mv (.t 53)⟩])
  (.seq (.seq (.reg [⟨some 54, none, .mv (.t 6)⟩,
        ⟨some 55, none, .un .not (.t 54)⟩])
    (.cond (.t 55) (.seq (.reg [⟨some 56, none, .build [.val (.int .i64 0), .val (.int .i64 0)] [(0, 1, .c (.val (.int .i64 (-2))))]⟩,
          ⟨none, none, .store [none, none] (.t 4) (.t 56)⟩])
      (.ret K_impl_Book_step_0))
    (.skip)))
  (.seq (.reg [⟨some 57, none, .load 2 true (.t 5)⟩,
      ⟨none, none, .store [none, none] (.t 4) (.t 57)⟩])
  (.ret K_impl_Book_step_0))))))
def f_impl_Book_step : IFn := ⟨2, [(.cell 4 2 true, [])], [(0, .cells [some 3])], C_impl_Book_step⟩
/-! 64 loop.example/g00627/spec.DrawGoodBook -/
@[simp] def K_spec_DrawGoodBook_0 : Keep := ⟨[((2, 0), []), ((2, 1), [some 3])], [2], []⟩
def C_spec_DrawGoodBook : IC := .seq (.reg [⟨some 2, none, .alloc [.nil]⟩])
  (.seq (.reg [⟨some 4, none, .mv (.t 0)⟩,
      ⟨some 5, none, .build [.nil, .val (.int .i64 0), .val (.int .u64 0)] [(0, 1, .t 4)]⟩,
      ⟨some 6, none, .box 3 (.t 5)⟩,
      ⟨some 3, none, .mv (.t 6)⟩])
  (.seq (.reg [⟨some 7, none, .mv (.t 3)⟩,
      ⟨some 8, none, .call 58 [.cells [some 1, none, none]] [.t 7]⟩,
      ⟨none, none, .store [some 3] (.t 2) (.t 8)⟩])
  (.ret K_spec_DrawGoodBook_0)))
def f_spec_DrawGoodBook : IFn := ⟨1, [(.cell 2 1 true, [some 3])], [], C_spec_DrawGoodBook⟩
/-! 65 loop.example/g00627/laws.toHandleStep -/
@[simp] def K_laws_toHandleStep_0 : Keep := ⟨[((2, 0), []), ((2, 1), []), ((2, 2), []), ((2, 3), []), ((2, 4), [])], [2], []⟩
def C_laws_toHandleStep : IC := .seq (.reg [⟨some 1, none, .box 4 (.t 0)⟩,
      ⟨some 2, none, .alloc [.val (.bool false), .val (.int .i64 0), .val (.int .i64 0), .val (.int .i64 0)]⟩])
  (.seq (.reg [⟨some 3, none, .alloc [.val (.bool false), .val (.int .i64 0), .val (.int .i64 0), .val (.int .i64 0)]⟩])
  (.seq (.reg [⟨some 4, none, .faddr (.t 1) 0⟩,
      ⟨some 5, none, .load 1 false (.t 4)⟩,
      ⟨some 6, none, .faddr (.t 3) 0⟩,
      ⟨none, none, .store [none] (.t 6) (.t 5)⟩])
  (.seq (.reg [⟨some 7, none, .faddr (.t 1) 1⟩,
      ⟨some 8, none, .load 1 false (.t 7)⟩,
      ⟨some 9, none, .faddr (.t 3) 1⟩,
      ⟨none, none, .store [none] (.t 9) (.t 8)⟩])
  (.seq (.reg [⟨some 10, none, .faddr (.t 1) 2⟩,
      ⟨some 11, none, .load 2 true (.t 10)⟩,
      ⟨some 12, none, .call 13 [.lent []] [.t 11]⟩,
      ⟨some 13, none, .faddr (.t 3) 2⟩,
      ⟨none, none, .store [none, none] (.t 13) (.t 12)⟩])
  (.seq (.reg [⟨some 14, none, .load 4 true (.t 3)⟩,
      ⟨none, none, .store [none, none, none, none] (.t 2) (.t 14)⟩])
  (.ret K_laws_toHandleStep_0))))))
def f_laws_toHandleStep : IFn := ⟨1, [(.cell 2 4 true, [])], [], C_laws_toHandleStep⟩
/-! 66 loop.example/g00627/laws.eqHandleStep -/
@[simp] def K_laws_eqHandleStep_0 : Keep := ⟨[((4, 0), [])], [], []⟩
def C_laws_eqHandleStep : IC := .seq (.reg [⟨some 2, none, .box 4 (.t 0)⟩,
      ⟨some 3, none, .box 4 (.t 1)⟩,
      ⟨some 4, none, .mv (.c (.val (.bool false)))⟩])
  (.seq (.seq (.reg [⟨some 5, none, .faddr (.t 2) 0⟩,
        ⟨some 6, none, .load 1 false (.t 5)⟩,
        ⟨some 7, none, .faddr (.t 3) 0⟩,
        ⟨some 8, none, .load 1 false (.t 7)⟩,
        ⟨some 9, none, .beq true (.t 6) (.t 8)⟩])
    (.cond (.t 9) (.seq (.reg [⟨some 4, none, .mv (.c (.val (.bool false)))⟩])
      (.ret K_laws_eqHandleStep_0))
    (.skip)))
  (.seq (.seq (.reg [⟨some 10, none, .faddr (.t 2) 1⟩,
        ⟨some 11, none, .load 1 false (.t 10)⟩,
        ⟨some 12, none, .faddr (.t 3) 1⟩,
        ⟨some 13, none, .load 1 false (.t 12)⟩,
        ⟨some 14, none, .bin .neq (.t 11) (.t 13)⟩])
    (.cond (.t 14) (.seq (.reg [⟨some 4, none, .mv (.c (.val (.bool false)))⟩])
      (.ret K_laws_eqHandleStep_0))
    (.skip)))
  (.seq (.seq (.reg [⟨some 15, none, .faddr (.t 2) 2⟩,
        ⟨some 16, none, .load 2 true (.t 15)⟩,
        ⟨some 17, none, .faddr (.t 3) 2⟩,
        ⟨some 18, none, .load 2 true (.t 17)⟩,
        ⟨some 19, none, .call 24 [.lent [], .lent []] [.t 16, .t 18]⟩,
        ⟨some 20, none, .un .not (.t 19)⟩])
    (.cond (.t 20) (.seq (.reg [⟨some 4, none, .mv (.c (.val (.bool false)))⟩])
      (.ret K_laws_eqHandleStep_0))
    (.skip)))
  (.seq (.reg [⟨some 4, none, .mv (.c (.val (.bool true)))⟩])
  (.ret K_laws_eqHandleStep_0)))))
def f_laws_eqHandleStep : IFn := ⟨2, [(.t 4, [])], [], C_laws_eqHandleStep⟩
/-! 67 loop.example/g00627/laws.toSlot -/
@[simp] def K_laws_toSlot_0 : Keep := ⟨[((2, 0), []), ((2, 1), []), ((2, 2), []), ((2, 3), [])], [2], []⟩
def C_laws_toSlot : IC := .seq (.reg [⟨some 1, none, .box 3 (.t 0)⟩,
      ⟨some 2, none, .alloc [.val (.int .i64 0), .val (.bool false), .val (.int .i64 0)]⟩])
  (.seq (.reg [⟨some 3, none, .alloc [.val (.int .i64 0), .val (.bool false), .val (.int .i64 0)]⟩])
  (.seq (.reg [⟨some 4, none, .faddr (.t 1) 0⟩,
      ⟨some 5, none, .load 1 false (.t 4)⟩,
      ⟨some 6, none, .faddr (.t 3) 0⟩,
      ⟨none, none, .store [none] (.t 6) (.t 5)⟩])
  (.seq (.reg [⟨some 7, none, .faddr (.t 1) 1⟩,
      ⟨some 8, none, .load 1 false (.t 7)⟩,
      ⟨some 9, none, .faddr (.t 3) 1⟩,
      ⟨none, none, .store [none] (.t 9) (.t 8)⟩])
  (.seq (.reg [⟨some 10, none, .faddr (.t 1) 2⟩,
      ⟨some 11, none, .load 1 false (.t 10)⟩,
      ⟨some 12, none, .faddr (.t 3) 2⟩,
      ⟨none, none, .store [none] (.t 12) (.t 11)⟩])
  (.seq (.reg [⟨some 13, none, .load 3 true (.t 3)⟩,
      ⟨none, none, .store [none, none, none] (.t 2) (.t 13)⟩])
  (.ret K_laws_toSlot_0))))))
def f_laws_toSlot : IFn := ⟨1, [(.cell 2 3 true, [])], [], C_laws_toSlot⟩
/-! 68 slices.ContainsFunc[[]loop.example/g00627/impl.Slot,loop.example/g00627/impl.Slot] -/
@[simp] def K_slices_ContainsFunc_Slot_0 : Keep := ⟨[((4, 0), [])], [], []⟩
def C_slices_ContainsFunc_Slot : IC := .seq (.reg [⟨some 4, none, .mv (.c (.val (.bool false)))⟩])
  (.seq (.reg [⟨some 5, none, .mv (.t 0)⟩,
      ⟨some 6, none, .mv (.t 1)⟩,
      ⟨some 7, none, .call 72 [.lent [some 3], .lent []] [.t 5, .t 6]⟩,
      ⟨some 8, none, .bin .geq (.t 7) (.c (.val (.int .i64 0)))⟩,
      ⟨some 4, none, .mv (.t 8)⟩])
  (.ret K_slices_ContainsFunc_Slot_0))
def f_slices_ContainsFunc_Slot : IFn := ⟨2, [(.t 4, [])], [], C_slices_ContainsFunc_Slot⟩
/-! 69 loop.example/g00627/impl.isBook$1 -/
@[simp] def K_impl_isBook_c1_0 : Keep := ⟨[((2, 0), [])], [], []⟩
def C_impl_isBook_c1 : IC := .seq (.reg [⟨some 1, none, .box 3 (.t 0)⟩,
      ⟨some 2, none, .mv (.c (.val (.bool false)))⟩])
  (.seq (.reg [⟨some 3, none, .faddr (.t 1) 0⟩,
      ⟨some 4, none, .load 1 false (.t 3)⟩,
      ⟨some 5, none, .call 56 [.lent [], .lent [], .lent []] [.t 4, .c (.val (.int .i64 0)), .c (.val (.int .i64 8))]⟩,
      ⟨some 6, none, .un .not (.t 5)⟩,
      ⟨some 7, none, .mv (.t 6)⟩,
      ⟨some 8, some (7, false), .faddr (.t 1) 2⟩,
      ⟨some 9, some (7, false), .load 1 false (.t 8)⟩,
      ⟨some 10, some (7, false), .call 56 [.lent [], .lent [], .lent []] [.t 9, .c (.val (.int .i64 0)), .c (.val (.int .i64 1000))]⟩,
      ⟨some 11, some (7, false), .un .not (.t 10)⟩,
      ⟨some 12, none, .pick (.t 7) (.c (.val (.bool true))) (.t 11)⟩,
      ⟨some 13, none, .mv (.t 12)⟩,
      ⟨some 14, some (13, false), .faddr (.t 1) 1⟩,
      ⟨some 15, some (13, false), .load 1 false (.t 14)⟩,
      ⟨some 16, some (13, false), .un .not (.t 15)⟩,
      ⟨some 17, some (13, false), .mv (.t 16)⟩,
      ⟨some 18, some (17, true), .faddr (.t 1) 2⟩,
      ⟨some 19, some (17, true), .load 1 false (.t 18)⟩,
      ⟨some 20, some (17, true), .bin .neq (.t 19) (.c (.val (.int .i64 0)))⟩,
      ⟨some 21, some (13, false), .pick (.t 17) (.t 20) (.c (.val (.bool false)))⟩,
      ⟨some 22, none, .pick (.t 13) (.c (.val (.bool true))) (.t 21)⟩,
      ⟨some 23, none, .mv (.t 22)⟩,
      ⟨some 24, some (23, false), .faddr (.t 1) 1⟩,
      ⟨some 25, some (23, false), .load 1 false (.t 24)⟩,
      ⟨some 26, some (23, false), .mv (.t 25)⟩,
      ⟨some 27, some (26, true), .faddr (.t 1) 0⟩,
      ⟨some 28, some (26, true), .load 1 false (.t 27)⟩,
      ⟨some 29, some (26, true), .bin .eql (.t 28) (.c (.val (.int .i64 8)))⟩,
      ⟨some 30, some (23, false), .pick (.t 26) (.t 29) (.c (.val (.bool false)))⟩,
      ⟨some 31, none, .pick (.t 23) (.c (.val (.bool true))) (.t 30)⟩,
      ⟨some 2, none, .mv (.t 31)⟩])
  (.ret K_impl_isBook_c1_0))
def f_impl_isBook_c1 : IFn := ⟨1, [(.t 2, [])], [], C_impl_isBook_c1⟩
/-! 70 loop.example/g00627/laws.eqSlot -/
@[simp] def K_laws_eqSlot_0 : Keep := ⟨[((4, 0), [])], [], []⟩
def C_laws_eqSlot : IC := .seq (.reg [⟨some 2, none, .box 3 (.t 0)⟩,
      ⟨some 3, none, .box 3 (.t 1)⟩,
      ⟨some 4, none, .mv (.c (.val (.bool false)))⟩])
  (.seq (.seq (.reg [⟨some 5, none, .faddr (.t 2) 0⟩,
        ⟨some 6, none, .load 1 false (.t 5)⟩,
        ⟨some 7, none, .faddr (.t 3) 0⟩,
        ⟨some 8, none, .load 1 false (.t 7)⟩,
        ⟨some 9, none, .bin .neq (.t 6) (.t 8)⟩])
    (.cond (.t 9) (.seq (.reg [⟨some 4, none, .mv (.c (.val (.bool false)))⟩])
      (.ret K_laws_eqSlot_0))
    (.skip)))
  (.seq (.seq (.reg [⟨some 10, none, .faddr (.t 2) 1⟩,
        ⟨some 11, none, .load 1 false (.t 10)⟩,
        ⟨some 12, none, .faddr (.t 3) 1⟩,
        ⟨some 13, none, .load 1 false (.t 12)⟩,
        ⟨some 14, none, .beq true (.t 11) (.t 13)⟩])
    (.cond (.t 14) (.seq (.reg [⟨some 4, none, .mv (.c (.val (.bool false)))⟩])
      (.ret K_laws_eqSlot_0))
    (.skip)))
  (.seq (.seq (.reg [⟨some 15, none, .faddr (.t 2) 2⟩,
        ⟨some 16, none, .load 1 false (.t 15)⟩,
        ⟨some 17, none, .faddr (.t 3) 2⟩,
        ⟨some 18, none, .load 1 false (.t 17)⟩,
        ⟨some 19, none, .bin .neq (.t 16) (.t 18)⟩])
    (.cond (.t 19) (.seq (.reg [⟨some 4, none, .mv (.c (.val (.bool false)))⟩])
      (.ret K_laws_eqSlot_0))
    (.skip)))
  (.seq (.reg [⟨some 4, none, .mv (.c (.val (.bool true)))⟩])
  (.ret K_laws_eqSlot_0)))))
def f_laws_eqSlot : IFn := ⟨2, [(.t 4, [])], [], C_laws_eqSlot⟩
/-! 71 (*loop.example/g00627/spec.l1Cur).next -/
@[simp] def K_spec_l1Cur_next_0 : Keep := ⟨[((0, 0), []), ((2, 0), []), ((0, 1), [some 1]), ((0, 2), []), ((0, 3), [])], [0], []⟩
def C_spec_l1Cur_next : IC := .seq (.reg [⟨some 2, none, .mv (.c (.val (.int .i64 0)))⟩])
  (.seq (.reg [⟨some 3, none, .mv (.c (.val (.int .i64 0)))⟩])
  (.seq (.seq (.dreg [⟨⟨some 4, none, .mv (.t 0)⟩, 0, [], []⟩,
        ⟨⟨some 5, none, .nilchk (.t 4)⟩, 1, [], []⟩,
        ⟨⟨some 6, none, .faddr (.t 5) 1⟩, 2, [], []⟩,
        ⟨⟨some 7, none, .load 1 false (.t 6)⟩, 3, [], []⟩,
        ⟨⟨some 8, none, .mv (.t 0)⟩, 4, [], []⟩,
        ⟨⟨some 9, none, .nilchk (.t 8)⟩, 5, [], []⟩,
        ⟨⟨some 10, none, .faddr (.t 9) 0⟩, 6, [], []⟩,
        ⟨⟨some 11, none, .load 1 false (.t 10)⟩, 7, [], []⟩,
        ⟨⟨some 12, none, .len (.t 11)⟩, 8, [], []⟩,
        ⟨⟨some 13, none, .bin .lss (.t 7) (.t 12)⟩, 9, [], []⟩])
    (.cond (.t 13) (.dreg [⟨⟨some 14, none, .mv (.t 0)⟩, 0, [], []⟩,
        ⟨⟨some 15, none, .nilchk (.t 14)⟩, 1, [], []⟩,
        ⟨⟨some 16, none, .faddr (.t 15) 0⟩, 2, [], []⟩,
        ⟨⟨some 17, none, .load 1 false (.t 16)⟩, 3, [], []⟩,
        ⟨⟨some 18, none, .mv (.t 0)⟩, 4, [], []⟩,
        ⟨⟨some 19, none, .nilchk (.t 18)⟩, 5, [], []⟩,
        ⟨⟨some 20, none, .faddr (.t 19) 1⟩, 6, [], []⟩,
        ⟨⟨some 21, none, .load 1 false (.t 20)⟩, 7, [], []⟩,
        ⟨⟨some 22, none, .iaddr 1 (.t 17) (.t 21)⟩, 8, [], []⟩,
        ⟨⟨some 23, none, .load 1 false (.t 22)⟩, 9, [], []⟩,
        ⟨⟨some 24, none, .conv .i64 (.t 23)⟩, 10, [], []⟩,
        ⟨⟨some 3, none, .mv (.t 24)⟩, 11, [], []⟩])
    (.skip)))
  (.seq (.reg [⟨some 25, none, .mv (.t 0)⟩,
      ⟨some 26, none, .nilchk (.t 25)⟩,
      ⟨some 27, none, .faddr (.t 26) 1⟩,
      ⟨some 28, none, .load 1 false (.t 27)⟩,
      ⟨some 29, none, .bin .add (.t 28) (.c (.val (.int .i64 1)))⟩,
      ⟨some 30, none, .nilchk (.t 25)⟩,
      ⟨some 31, none, .faddr (.t 30) 1⟩,
      ⟨none, none, .store [none] (.t 31) (.t 29)⟩])
  (.seq (.reg [⟨some 32, none, .mv (.t 0)⟩,
      ⟨some 33, none, .mv (.t 0)⟩,
      ⟨some 34, none, .nilchk (.t 33)⟩,
      ⟨some 35, none, .faddr (.t 34) 2⟩,
      ⟨some 36, none, .load 1 false (.t 35)⟩,
      ⟨some 37, none, .bin .mul (.t 36) (.c (.val (.int .u64 6364136223846793005)))⟩,
      ⟨some 38, none, .mv (.t 3)⟩,
      ⟨some 39, none, .conv .u64 (.t 38)⟩,
      ⟨some 40, none, .bin .add (.t 37) (.t 39)⟩,
      ⟨some 41, none, .bin .add (.t 40) (.c (.val (.int .u64 1442695040888963407)))⟩,
      ⟨some 42, none, .nilchk (.t 32)⟩,
      ⟨some 43, none, .faddr (.t 42) 2⟩,
      ⟨none, none, .store [none] (.t 43) (.t 41)⟩])
  (.seq (.seq (.dreg [⟨⟨some 44, none, .mv (.t 0)⟩, 0, [], []⟩,
        ⟨⟨some 45, none, .nilchk (.t 44)⟩, 1, [], []⟩,
        ⟨⟨some 46, none, .faddr (.t 45) 1⟩, 2, [], []⟩,
        ⟨⟨some 47, none, .load 1 false (.t 46)⟩, 3, [], []⟩,
        ⟨⟨some 48, none, .mv (.t 0)⟩, 4, [], []⟩,
        ⟨⟨some 49, none, .nilchk (.t 48)⟩, 5, [], []⟩,
        ⟨⟨some 50, none, .faddr (.t 49) 0⟩, 6, [], []⟩,
        ⟨⟨some 51, none, .load 1 false (.t 50)⟩, 7, [], []⟩,
        ⟨⟨some 52, none, .len (.t 51)⟩, 8, [], []⟩,
        ⟨⟨some 53, none, .bin .leq (.t 47) (.t 52)⟩, 9, [], []⟩])
    (.cond (.t 53) (.seq (.reg [⟨some 54, none, .mv (.t 3)⟩,
          ⟨some 2, none, .mv (.t 54)⟩])
      (.ret K_spec_l1Cur_next_0))
    (.skip)))
  (.seq (.reg [⟨some 55, none, .mv (.t 0)⟩,
      ⟨some 56, none, .nilchk (.t 55)⟩,
      ⟨some 57, none, .faddr (.t 56) 2⟩,
      ⟨some 58, none, .load 1 false (.t 57)⟩,
      ⟨some 59, none, .bin .shr (.t 58) (.c (.val (.int .u64 40)))⟩,
      ⟨some 60, none, .bin .and (.t 59) (.c (.val (.int .u64 255)))⟩,
      ⟨some 61, none, .conv .i64 (.t 60)⟩,
      ⟨some 2, none, .mv (.t 61)⟩])
  (.ret K_spec_l1Cur_next_0)))))))
def f_spec_l1Cur_next : IFn := ⟨1, [(.t 2, [])], [(0, .cells [some 1, none, none])], C_spec_l1Cur_next⟩
/-! 72 slices.IndexFunc[[]loop.example/g00627/impl.Slot,loop.example/g00627/impl.Slot] -/
@[simp] def K_slices_IndexFunc_Slot_0 : Keep := ⟨[], [], []⟩
@[simp] def K_slices_IndexFunc_Slot_1 : Keep := ⟨[((4, 0), [])], [], []⟩
def B_slices_IndexFunc_Slot_2 : IC := .seq (.reg [⟨some 9, none, .bin .lss (.t 8) (.t 7)⟩])
  (.seq (.cond (.t 9) (.skip)
    (.exit 0 K_slices_IndexFunc_Slot_0))
  (.seq (.block 1 (.seq (.reg [⟨some 10, none, .mv (.t 8)⟩,
        ⟨some 5, none, .mv (.t 10)⟩])
    (.seq (.reg [⟨some 11, none, .mv (.t 1)⟩,
        ⟨some 12, none, .mv (.t 0)⟩,
        ⟨some 13, none, .mv (.t 5)⟩,
        ⟨some 14, none, .iaddr 3 (.t 12) (.t 13)⟩,
        ⟨some 15, none, .load 3 true (.t 14)⟩,
        ⟨some 16, none, .callv [12, 13, 16, 17, 25, 27, 28, 29, 30, 31, 32, 33, 37, 39, 47, 48, 51, 52, 64, 65, 67, 69] [] (.t 11) [.t 15]⟩])
    (.cond (.t 16) (.seq (.reg [⟨some 17, none, .mv (.t 5)⟩,
          ⟨some 4, none, .mv (.t 17)⟩])
      (.ret K_slices_IndexFunc_Slot_1))
    (.skip)))))
  (.reg [⟨some 18, none, .bin .add (.t 8) (.c (.val (.int .i64 1)))⟩,
    ⟨some 8, none, .mv (.t 18)⟩])))
@[simp] def K_slices_IndexFunc_Slot_2 : Keep := ⟨[((0, 0), [some 3]), ((1, 0), []), ((7, 0), []), ((8, 0), [])], [], []⟩
def L_slices_IndexFunc_Slot_2 : IC := .loop K_slices_IndexFunc_Slot_2 B_slices_IndexFunc_Slot_2
def C_slices_IndexFunc_Slot : IC := .seq (.reg [⟨some 4, none, .mv (.c (.val (.int .i64 0)))⟩])
  (.seq (.seq (.reg [⟨some 6, none, .mv (.t 0)⟩,
        ⟨some 7, none, .len (.t 6)⟩,
        ⟨some 8, none, .mv (.c (.val (.int .i64 0)))⟩])
    (.block 0 (L_slices_IndexFunc_Slot_2)))
  (.seq (.reg [⟨some 4, none, .mv (.c (.val (.int .i64 (-1))))⟩])
  (.ret K_slices_IndexFunc_Slot_1)))
def f_slices_IndexFunc_Slot : IFn := ⟨2, [(.t 4, [])], [], C_slices_IndexFunc_Slot⟩
def tbl : List (Nat × IFn) := [(3, f_laws_FnExactValueOf), (4, f_laws_FnExactLeftFor), (5, f_laws_FnExactFreeHandle), (6, f_laws_FnExactNewHandle), (7, f_laws_FnFreed), (8, f_laws_FnHandles), (9, f_laws_FnExactPlayBook), (10, f_laws_szBook), (11, f_spec_ValueOf), (12, f_laws_toBook), (13, f_laws_toHandle), (14, f_impl_ValueOf), (15, f_laws_eqBook), (16, f_spec_LeftFor), (17, f_impl_LeftFor), (18, f_spec_FreeHandle), (19, f_impl_FreeHandle), (20, f_laws_markBook), (21, f_laws_heldBook), (22, f_spec_NewHandle), (23, f_impl_NewHandle), (24, f_laws_eqHandle), (25, f_spec_DrawNewHandle), (26, f_laws_sameBook), (27, f_impl_GoodBook), (28, f_spec_GoodBook), (29, f_spec_DrawValueOf), (30, f_spec_DrawEmptyBook), (31, f_impl_EmptyBook), (32, f_spec_EmptyBook), (33, f_spec_DrawPlayBook), (34, f_impl_PlayBook), (35, f_spec_PlayBook), (36, f_laws_sameHandles), (37, f_spec_DrawLeftFor), (38, f_laws_szHandleStepS), (39, f_laws_toHandleStepS), (40, f_laws_eqHandleS), (41, f_laws_eqHandleStepS), (42, f_laws_markHandleStepS), (43, f_laws_markHandleS), (44, f_laws_heldHandleS), (45, f_laws_szSlotS), (46, f_spec_l16Holds), (47, f_laws_toSlotS), (48, f_impl_isBook), (49, f_impl_Book_has), (50, f_laws_eqSlotS), (51, f_spec_l16Own), (52, f_slices_Clone_Slot), (53, f_laws_markSlotS), (54, f_laws_heldSlotS), (55, f_spec_l1In), (56, f_impl_within), (57, f_impl_Book_create), (58, f_spec_l1Cur_handleBook), (59, f_spec_l1Cur_among), (60, f_spec_l1Cur_pick), (61, f_spec_l1Cur_one), (62, f_spec_l1Cur_handleSteps), (63, f_impl_Book_step), (64, f_spec_DrawGoodBook), (65, f_laws_toHandleStep), (66, f_laws_eqHandleStep), (67, f_laws_toSlot), (68, f_slices_ContainsFunc_Slot), (69, f_impl_isBook_c1), (70, f_laws_eqSlot), (71, f_spec_l1Cur_next), (72, f_slices_IndexFunc_Slot)]
def I : Nat → Option IFn := getI tbl
def sig : Nat → List (Nat × Nat)
  | 20 => [(0, 2)]
  | 34 => [(1, 1)]
  | 42 => [(0, 1)]
  | 43 => [(0, 1)]
  | 53 => [(0, 1)]
  | 57 => [(0, 3)]
  | 58 => [(0, 3)]
  | 59 => [(0, 3)]
  | 60 => [(0, 3)]
  | 61 => [(0, 3)]
  | 62 => [(0, 3)]
  | 63 => [(0, 3)]
  | 71 => [(0, 3)]
  | _ => []
def X : Fun := fun _ _ => none
noncomputable abbrev FF : Fun := F X I
noncomputable abbrev EV : IC → St → Option (Ex × St) := ev X I
theorem D_3 (a : List T) (h : a.length = 2) : FF 3 a = (EV C_laws_FnExactValueOf (impArgs 0 a)).bind (fin [(.t 4, [])] [] a) := F_def X I (f := 3) (fn := f_laws_FnExactValueOf) (fun _ => rfl) rfl a h
theorem D_4 (a : List T) (h : a.length = 1) : FF 4 a = (EV C_laws_FnExactLeftFor (impArgs 0 a)).bind (fin [(.t 2, [])] [] a) := F_def X I (f := 4) (fn := f_laws_FnExactLeftFor) (fun _ => rfl) rfl a h
theorem D_5 (a : List T) (h : a.length = 2) : FF 5 a = (EV C_laws_FnExactFreeHandle (impArgs 0 a)).bind (fin [(.t 4, [])] [] a) := F_def X I (f := 5) (fn := f_laws_FnExactFreeHandle) (fun _ => rfl) rfl a h
theorem D_6 (a : List T) (h : a.length = 2) : FF 6 a = (EV C_laws_FnExactNewHandle (impArgs 0 a)).bind (fin [(.t 4, [])] [] a) := F_def X I (f := 6) (fn := f_laws_FnExactNewHandle) (fun _ => rfl) rfl a h
theorem D_7 (a : List T) (h : a.length = 2) : FF 7 a = (EV C_laws_FnFreed (impArgs 0 a)).bind (fin [(.t 4, [])] [] a) := F_def X I (f := 7) (fn := f_laws_FnFreed) (fun _ => rfl) rfl a h
theorem D_8 (a : List T) (h : a.length = 2) : FF 8 a = (EV C_laws_FnHandles (impArgs 0 a)).bind (fin [(.t 4, [])] [] a) := F_def X I (f := 8) (fn := f_laws_FnHandles) (fun _ => rfl) rfl a h
theorem D_9 (a : List T) (h : a.length = 2) : FF 9 a = (EV C_laws_FnExactPlayBook (impArgs 0 a)).bind (fin [(.t 4, [])] [] a) := F_def X I (f := 9) (fn := f_laws_FnExactPlayBook) (fun _ => rfl) rfl a h
theorem D_10 (a : List T) (h : a.length = 2) : FF 10 a = (EV C_laws_szBook (impArgs 0 a)).bind (fin [(.t 4, [])] [] a) := F_def X I (f := 10) (fn := f_laws_szBook) (fun _ => rfl) rfl a h
theorem D_11 (a : List T) (h : a.length = 2) : FF 11 a = (EV C_spec_ValueOf (impArgs 0 a)).bind (fin [(.t 4, []), (.t 5, [])] [] a) := F_def X I (f := 11) (fn := f_spec_ValueOf) (fun _ => rfl) rfl a h
theorem D_12 (a : List T) (h : a.length = 1) : FF 12 a = (EV C_laws_toBook (impArgs 0 a)).bind (fin [(.cell 2 1 true, [some 3])] [] a) := F_def X I (f := 12) (fn := f_laws_toBook) (fun _ => rfl) rfl a h
theorem D_13 (a : List T) (h : a.length = 1) : FF 13 a = (EV C_laws_toHandle (impArgs 0 a)).bind (fin [(.cell 2 2 true, [])] [] a) := F_def X I (f := 13) (fn := f_laws_toHandle) (fun _ => rfl) rfl a h
theorem D_14 (a : List T) (h : a.length = 2) : FF 14 a = (EV C_impl_ValueOf (impArgs 0 a)).bind (fin [(.t 4, []), (.t 5, [])] [] a) := F_def X I (f := 14) (fn := f_impl_ValueOf) (fun _ => rfl) rfl a h
theorem D_15 (a : List T) (h : a.length = 2) : FF 15 a = (EV C_laws_eqBook (impArgs 0 a)).bind (fin [(.t 4, [])] [] a) := F_def X I (f := 15) (fn := f_laws_eqBook) (fun _ => rfl) rfl a h
theorem D_16 (a : List T) (h : a.length = 1) : FF 16 a = (EV C_spec_LeftFor (impArgs 0 a)).bind (fin [(.t 2, []), (.t 3, [])] [] a) := F_def X I (f := 16) (fn := f_spec_LeftFor) (fun _ => rfl) rfl a h
theorem D_17 (a : List T) (h : a.length = 1) : FF 17 a = (EV C_impl_LeftFor (impArgs 0 a)).bind (fin [(.t 2, []), (.t 3, [])] [] a) := F_def X I (f := 17) (fn := f_impl_LeftFor) (fun _ => rfl) rfl a h
theorem D_18 (a : List T) (h : a.length = 2) : FF 18 a = (EV C_spec_FreeHandle (impArgs 0 a)).bind (fin [(.cell 4 1 true, [some 3]), (.t 5, [])] [] a) := F_def X I (f := 18) (fn := f_spec_FreeHandle) (fun _ => rfl) rfl a h
theorem D_19 (a : List T) (h : a.length = 2) : FF 19 a = (EV C_impl_FreeHandle (impArgs 0 a)).bind (fin [(.cell 4 1 true, [some 3]), (.t 5, [])] [] a) := F_def X I (f := 19) (fn := f_impl_FreeHandle) (fun _ => rfl) rfl a h
theorem D_20 (a : List T) (h : a.length = 2) : FF 20 a = (EV C_laws_markBook (impArgs 0 a)).bind (fin [(.t 4, [])] [(0, .rows [some 3])] a) := F_def X I (f := 20) (fn := f_laws_markBook) (fun _ => rfl) rfl a h
theorem D_21 (a : List T) (h : a.length = 2) : FF 21 a = (EV C_laws_heldBook (impArgs 0 a)).bind (fin [(.t 4, [])] [] a) := F_def X I (f := 21) (fn := f_laws_heldBook) (fun _ => rfl) rfl a h
theorem D_22 (a : List T) (h : a.length = 2) : FF 22 a = (EV C_spec_NewHandle (impArgs 0 a)).bind (fin [(.cell 4 1 true, [some 3]), (.cell 5 2 true, []), (.t 6, [])] [] a) := F_def X I (f := 22) (fn := f_spec_NewHandle) (fun _ => rfl) rfl a h
theorem D_23 (a : List T) (h : a.length = 2) : FF 23 a = (EV C_impl_NewHandle (impArgs 0 a)).bind (fin [(.cell 4 1 true, [some 3]), (.cell 5 2 true, []), (.t 6, [])] [] a) := F_def X I (f := 23) (fn := f_impl_NewHandle) (fun _ => rfl) rfl a h
theorem D_24 (a : List T) (h : a.length = 2) : FF 24 a = (EV C_laws_eqHandle (impArgs 0 a)).bind (fin [(.t 4, [])] [] a) := F_def X I (f := 24) (fn := f_laws_eqHandle) (fun _ => rfl) rfl a h
theorem D_25 (a : List T) (h : a.length = 1) : FF 25 a = (EV C_spec_DrawNewHandle (impArgs 0 a)).bind (fin [(.cell 2 1 true, [some 3]), (.t 3, [])] [] a) := F_def X I (f := 25) (fn := f_spec_DrawNewHandle) (fun _ => rfl) rfl a h
theorem D_26 (a : List T) (h : a.length = 2) : FF 26 a = (EV C_laws_sameBook (impArgs 0 a)).bind (fin [(.t 4, [])] [] a) := F_def X I (f := 26) (fn := f_laws_sameBook) (fun _ => rfl) rfl a h
theorem D_27 (a : List T) (h : a.length = 1) : FF 27 a = (EV C_impl_GoodBook (impArgs 0 a)).bind (fin [(.t 2, [])] [] a) := F_def X I (f := 27) (fn := f_impl_GoodBook) (fun _ => rfl) rfl a h
theorem D_28 (a : List T) (h : a.length = 1) : FF 28 a = (EV C_spec_GoodBook (impArgs 0 a)).bind (fin [(.t 2, [])] [] a) := F_def X I (f := 28) (fn := f_spec_GoodBook) (fun _ => rfl) rfl a h
theorem D_29 (a : List T) (h : a.length = 1) : FF 29 a = (EV C_spec_DrawValueOf (impArgs 0 a)).bind (fin [(.cell 2 1 true, [some 3]), (.cell 3 2 true, [])] [] a) := F_def X I (f := 29) (fn := f_spec_DrawValueOf) (fun _ => rfl) rfl a h
theorem D_30 (a : List T) (h : a.length = 1) : FF 30 a = (EV C_spec_DrawEmptyBook (impArgs 0 a)).bind (fin [(.t 2, [])] [] a) := F_def X I (f := 30) (fn := f_spec_DrawEmptyBook) (fun _ => rfl) rfl a h
theorem D_31 (a : List T) (h : a.length = 1) : FF 31 a = (EV C_impl_EmptyBook (impArgs 0 a)).bind (fin [(.cell 2 1 true, [some 3]), (.t 3, [])] [] a) := F_def X I (f := 31) (fn := f_impl_EmptyBook) (fun _ => rfl) rfl a h
theorem D_32 (a : List T) (h : a.length = 1) : FF 32 a = (EV C_spec_EmptyBook (impArgs 0 a)).bind (fin [(.cell 2 1 true, [some 3]), (.t 3, [])] [] a) := F_def X I (f := 32) (fn := f_spec_EmptyBook) (fun _ => rfl) rfl a h
theorem D_33 (a : List T) (h : a.length = 1) : FF 33 a = (EV C_spec_DrawPlayBook (impArgs 0 a)).bind (fin [(.t 2, []), (.t 3, [some 4])] [] a) := F_def X I (f := 33) (fn := f_spec_DrawPlayBook) (fun _ => rfl) rfl a h
theorem D_34 (a : List T) (h : a.length = 2) : FF 34 a = (EV C_impl_PlayBook (impArgs 0 a)).bind (fin [(.cell 4 1 true, [some 3]), (.t 5, [some 2]), (.t 6, [])] [(1, .row [some 4])] a) := F_def X I (f := 34) (fn := f_impl_PlayBook) (fun _ => rfl) rfl a h
theorem D_35 (a : List T) (h : a.length = 2) : FF 35 a = (EV C_spec_PlayBook (impArgs 0 a)).bind (fin [(.cell 4 1 true, [some 3]), (.t 5, [some 2]), (.t 6, [])] [] a) := F_def X I (f := 35) (fn := f_spec_PlayBook) (fun _ => rfl) rfl a h
theorem D_36 (a : List T) (h : a.length = 2) : FF 36 a = (EV C_laws_sameHandles (impArgs 0 a)).bind (fin [(.t 4, [])] [] a) := F_def X I (f := 36) (fn := f_laws_sameHandles) (fun _ => rfl) rfl a h
theorem D_37 (a : List T) (h : a.length = 1) : FF 37 a = (EV C_spec_DrawLeftFor (impArgs 0 a)).bind (fin [(.cell 2 1 true, [some 3])] [] a) := F_def X I (f := 37) (fn := f_spec_DrawLeftFor) (fun _ => rfl) rfl a h
theorem D_38 (a : List T) (h : a.length = 2) : FF 38 a = (EV C_laws_szHandleStepS (impArgs 0 a)).bind (fin [(.t 4, [])] [] a) := F_def X I (f := 38) (fn := f_laws_szHandleStepS) (fun _ => rfl) rfl a h
theorem D_39 (a : List T) (h : a.length = 1) : FF 39 a = (EV C_laws_toHandleStepS (impArgs 0 a)).bind (fin [(.t 2, [some 4])] [] a) := F_def X I (f := 39) (fn := f_laws_toHandleStepS) (fun _ => rfl) rfl a h
theorem D_40 (a : List T) (h : a.length = 2) : FF 40 a = (EV C_laws_eqHandleS (impArgs 0 a)).bind (fin [(.t 4, [])] [] a) := F_def X I (f := 40) (fn := f_laws_eqHandleS) (fun _ => rfl) rfl a h
theorem D_41 (a : List T) (h : a.length = 2) : FF 41 a = (EV C_laws_eqHandleStepS (impArgs 0 a)).bind (fin [(.t 4, [])] [] a) := F_def X I (f := 41) (fn := f_laws_eqHandleStepS) (fun _ => rfl) rfl a h
theorem D_42 (a : List T) (h : a.length = 2) : FF 42 a = (EV C_laws_markHandleStepS (impArgs 0 a)).bind (fin [(.t 4, [])] [(0, .row [some 4])] a) := F_def X I (f := 42) (fn := f_laws_markHandleStepS) (fun _ => rfl) rfl a h
theorem D_43 (a : List T) (h : a.length = 2) : FF 43 a = (EV C_laws_markHandleS (impArgs 0 a)).bind (fin [(.t 4, [])] [(0, .row [some 2])] a) := F_def X I (f := 43) (fn := f_laws_markHandleS) (fun _ => rfl) rfl a h
theorem D_44 (a : List T) (h : a.length = 2) : FF 44 a = (EV C_laws_heldHandleS (impArgs 0 a)).bind (fin [(.t 4, [])] [] a) := F_def X I (f := 44) (fn := f_laws_heldHandleS) (fun _ => rfl) rfl a h
theorem D_45 (a : List T) (h : a.length = 2) : FF 45 a = (EV C_laws_szSlotS (impArgs 0 a)).bind (fin [(.t 4, [])] [] a) := F_def X I (f := 45) (fn := f_laws_szSlotS) (fun _ => rfl) rfl a h
theorem D_46 (a : List T) (h : a.length = 2) : FF 46 a = (EV C_spec_l16Holds (impArgs 0 a)).bind (fin [(.t 4, [])] [] a) := F_def X I (f := 46) (fn := f_spec_l16Holds) (fun _ => rfl) rfl a h
theorem D_47 (a : List T) (h : a.length = 1) : FF 47 a = (EV C_laws_toSlotS (impArgs 0 a)).bind (fin [(.t 2, [some 3])] [] a) := F_def X I (f := 47) (fn := f_laws_toSlotS) (fun _ => rfl) rfl a h
theorem D_48 (a : List T) (h : a.length = 1) : FF 48 a = (EV C_impl_isBook (impArgs 0 a)).bind (fin [(.t 2, [])] [] a) := F_def X I (f := 48) (fn := f_impl_isBook) (fun _ => rfl) rfl a h
theorem D_49 (a : List T) (h : a.length = 2) : FF 49 a = (EV C_impl_Book_has (impArgs 0 a)).bind (fin [(.t 4, [])] [] a) := F_def X I (f := 49) (fn := f_impl_Book_has) (fun _ => rfl) rfl a h
theorem D_50 (a : List T) (h : a.length = 2) : FF 50 a = (EV C_laws_eqSlotS (impArgs 0 a)).bind (fin [(.t 4, [])] [] a) := F_def X I (f := 50) (fn := f_laws_eqSlotS) (fun _ => rfl) rfl a h
theorem D_51 (a : List T) (h : a.length = 1) : FF 51 a = (EV C_spec_l16Own (impArgs 0 a)).bind (fin [(.cell 2 1 true, [some 3])] [] a) := F_def X I (f := 51) (fn := f_spec_l16Own) (fun _ => rfl) rfl a h
theorem D_52 (a : List T) (h : a.length = 1) : FF 52 a = (EV C_slices_Clone_Slot (impArgs 0 a)).bind (fin [(.t 2, [some 3])] [] a) := F_def X I (f := 52) (fn := f_slices_Clone_Slot) (fun _ => rfl) rfl a h
theorem D_53 (a : List T) (h : a.length = 2) : FF 53 a = (EV C_laws_markSlotS (impArgs 0 a)).bind (fin [(.t 4, [])] [(0, .row [some 3])] a) := F_def X I (f := 53) (fn := f_laws_markSlotS) (fun _ => rfl) rfl a h
theorem D_54 (a : List T) (h : a.length = 2) : FF 54 a = (EV C_laws_heldSlotS (impArgs 0 a)).bind (fin [(.t 4, [])] [] a) := F_def X I (f := 54) (fn := f_laws_heldSlotS) (fun _ => rfl) rfl a h
theorem D_55 (a : List T) (h : a.length = 3) : FF 55 a = (EV C_spec_l1In (impArgs 0 a)).bind (fin [(.t 6, [])] [] a) := F_def X I (f := 55) (fn := f_spec_l1In) (fun _ => rfl) rfl a h
theorem D_56 (a : List T) (h : a.length = 3) : FF 56 a = (EV C_impl_within (impArgs 0 a)).bind (fin [(.t 6, [])] [] a) := F_def X I (f := 56) (fn := f_impl_within) (fun _ => rfl) rfl a h
theorem D_57 (a : List T) (h : a.length = 2) : FF 57 a = (EV C_impl_Book_create (impArgs 0 a)).bind (fin [(.cell 4 2 true, []), (.t 5, [])] [(0, .cells [some 3])] a) := F_def X I (f := 57) (fn := f_impl_Book_create) (fun _ => rfl) rfl a h
theorem D_58 (a : List T) (h : a.length = 1) : FF 58 a = (EV C_spec_l1Cur_handleBook (impArgs 0 a)).bind (fin [(.cell 2 1 true, [some 3])] [(0, .cells [some 1, none, none])] a) := F_def X I (f := 58) (fn := f_spec_l1Cur_handleBook) (fun _ => rfl) rfl a h
theorem D_59 (a : List T) (h : a.length = 2) : FF 59 a = (EV C_spec_l1Cur_among (impArgs 0 a)).bind (fin [(.t 4, [])] [(0, .cells [some 1, none, none])] a) := F_def X I (f := 59) (fn := f_spec_l1Cur_among) (fun _ => rfl) rfl a h
theorem D_60 (a : List T) (h : a.length = 2) : FF 60 a = (EV C_spec_l1Cur_pick (impArgs 0 a)).bind (fin [(.t 4, [])] [(0, .cells [some 1, none, none])] a) := F_def X I (f := 60) (fn := f_spec_l1Cur_pick) (fun _ => rfl) rfl a h
theorem D_61 (a : List T) (h : a.length = 2) : FF 61 a = (EV C_spec_l1Cur_one (impArgs 0 a)).bind (fin [(.t 4, [])] [(0, .cells [some 1, none, none])] a) := F_def X I (f := 61) (fn := f_spec_l1Cur_one) (fun _ => rfl) rfl a h
theorem D_62 (a : List T) (h : a.length = 1) : FF 62 a = (EV C_spec_l1Cur_handleSteps (impArgs 0 a)).bind (fin [(.t 2, [some 4])] [(0, .cells [some 1, none, none])] a) := F_def X I (f := 62) (fn := f_spec_l1Cur_handleSteps) (fun _ => rfl) rfl a h
theorem D_63 (a : List T) (h : a.length = 2) : FF 63 a = (EV C_impl_Book_step (impArgs 0 a)).bind (fin [(.cell 4 2 true, [])] [(0, .cells [some 3])] a) := F_def X I (f := 63) (fn := f_impl_Book_step) (fun _ => rfl) rfl a h
theorem D_64 (a : List T) (h : a.length = 1) : FF 64 a = (EV C_spec_DrawGoodBook (impArgs 0 a)).bind (fin [(.cell 2 1 true, [some 3])] [] a) := F_def X I (f := 64) (fn := f_spec_DrawGoodBook) (fun _ => rfl) rfl a h
theorem D_65 (a : List T) (h : a.length = 1) : FF 65 a = (EV C_laws_toHandleStep (impArgs 0 a)).bind (fin [(.cell 2 4 true, [])] [] a) := F_def X I (f := 65) (fn := f_laws_toHandleStep) (fun _ => rfl) rfl a h
theorem D_66 (a : List T) (h : a.length = 2) : FF 66 a = (EV C_laws_eqHandleStep (impArgs 0 a)).bind (fin [(.t 4, [])] [] a) := F_def X I (f := 66) (fn := f_laws_eqHandleStep) (fun _ => rfl) rfl a h
theorem D_67 (a : List T) (h : a.length = 1) : FF 67 a = (EV C_laws_toSlot (impArgs 0 a)).bind (fin [(.cell 2 3 true, [])] [] a) := F_def X I (f := 67) (fn := f_laws_toSlot) (fun _ => rfl) rfl a h
theorem D_68 (a : List T) (h : a.length = 2) : FF 68 a = (EV C_slices_ContainsFunc_Slot (impArgs 0 a)).bind (fin [(.t 4, [])] [] a) := F_def X I (f := 68) (fn := f_slices_ContainsFunc_Slot) (fun _ => rfl) rfl a h
theorem D_69 (a : List T) (h : a.length = 1) : FF 69 a = (EV C_impl_isBook_c1 (impArgs 0 a)).bind (fin [(.t 2, [])] [] a) := F_def X I (f := 69) (fn := f_impl_isBook_c1) (fun _ => rfl) rfl a h
theorem D_70 (a : List T) (h : a.length = 2) : FF 70 a = (EV C_laws_eqSlot (impArgs 0 a)).bind (fin [(.t 4, [])] [] a) := F_def X I (f := 70) (fn := f_laws_eqSlot) (fun _ => rfl) rfl a h
theorem D_71 (a : List T) (h : a.length = 1) : FF 71 a = (EV C_spec_l1Cur_next (impArgs 0 a)).bind (fin [(.t 2, [])] [(0, .cells [some 1, none, none])] a) := F_def X I (f := 71) (fn := f_spec_l1Cur_next) (fun _ => rfl) rfl a h
theorem D_72 (a : List T) (h : a.length = 2) : FF 72 a = (EV C_slices_IndexFunc_Slot (impArgs 0 a)).bind (fin [(.t 4, [])] [] a) := F_def X I (f := 72) (fn := f_slices_IndexFunc_Slot) (fun _ => rfl) rfl a h
noncomputable def H_laws_FnFreed_15 (t : St) : Option (Ex × St) := (EV B_laws_FnFreed_15 t).bind (thenN fun s => EV L_laws_FnFreed_15 s)
theorem U_laws_FnFreed_15 (s : St) : EV L_laws_FnFreed_15 s = H_laws_FnFreed_15 (keep K_laws_FnFreed_2 s) := ev_loop X I _ _ _
noncomputable def H_laws_FnHandles_18 (t : St) : Option (Ex × St) := (EV B_laws_FnHandles_18 t).bind (thenN fun s => EV L_laws_FnHandles_18 s)
theorem U_laws_FnHandles_18 (s : St) : EV L_laws_FnHandles_18 s = H_laws_FnHandles_18 (keep K_laws_FnHandles_4 s) := ev_loop X I _ _ _
noncomputable def H_laws_FnHandles_12 (t : St) : Option (Ex × St) := (EV B_laws_FnHandles_12 t).bind (thenN fun s => EV L_laws_FnHandles_12 s)
theorem U_laws_FnHandles_12 (s : St) : EV L_laws_FnHandles_12 s = H_laws_FnHandles_12 (keep K_laws_FnHandles_5 s) := ev_loop X I _ _ _
noncomputable def H_laws_FnHandles_34 (t : St) : Option (Ex × St) := (EV B_laws_FnHandles_34 t).bind (thenN fun s => EV L_laws_FnHandles_34 s)
theorem U_laws_FnHandles_34 (s : St) : EV L_laws_FnHandles_34 s = H_laws_FnHandles_34 (keep K_laws_FnHandles_8 s) := ev_loop X I _ _ _
noncomputable def H_laws_FnHandles_30 (t : St) : Option (Ex × St) := (EV B_laws_FnHandles_30 t).bind (thenN fun s => EV L_laws_FnHandles_30 s)
theorem U_laws_FnHandles_30 (s : St) : EV L_laws_FnHandles_30 s = H_laws_FnHandles_30 (keep K_laws_FnHandles_9 s) := ev_loop X I _ _ _
noncomputable def H_spec_LeftFor_5 (t : St) : Option (Ex × St) := (EV B_spec_LeftFor_5 t).bind (thenN fun s => EV L_spec_LeftFor_5 s)
theorem U_spec_LeftFor_5 (s : St) : EV L_spec_LeftFor_5 s = H_spec_LeftFor_5 (keep K_spec_LeftFor_2 s) := ev_loop X I _ _ _
noncomputable def H_impl_LeftFor_5 (t : St) : Option (Ex × St) := (EV B_impl_LeftFor_5 t).bind (thenN fun s => EV L_impl_LeftFor_5 s)
theorem U_impl_LeftFor_5 (s : St) : EV L_impl_LeftFor_5 s = H_impl_LeftFor_5 (keep K_impl_LeftFor_2 s) := ev_loop X I _ _ _
noncomputable def H_spec_NewHandle_5 (t : St) : Option (Ex × St) := (EV B_spec_NewHandle_5 t).bind (thenN fun s => EV L_spec_NewHandle_5 s)
theorem U_spec_NewHandle_5 (s : St) : EV L_spec_NewHandle_5 s = H_spec_NewHandle_5 (keep K_spec_NewHandle_2 s) := ev_loop X I _ _ _
noncomputable def H_laws_sameBook_4 (t : St) : Option (Ex × St) := (EV B_laws_sameBook_4 t).bind (thenN fun s => EV L_laws_sameBook_4 s)
theorem U_laws_sameBook_4 (s : St) : EV L_laws_sameBook_4 s = H_laws_sameBook_4 (keep K_laws_sameBook_2 s) := ev_loop X I _ _ _
noncomputable def H_spec_GoodBook_2 (t : St) : Option (Ex × St) := (EV B_spec_GoodBook_2 t).bind (thenN fun s => EV L_spec_GoodBook_2 s)
theorem U_spec_GoodBook_2 (s : St) : EV L_spec_GoodBook_2 s = H_spec_GoodBook_2 (keep K_spec_GoodBook_2 s) := ev_loop X I _ _ _
noncomputable def H_impl_PlayBook_6 (t : St) : Option (Ex × St) := (EV B_impl_PlayBook_6 t).bind (thenN fun s => EV L_impl_PlayBook_6 s)
theorem U_impl_PlayBook_6 (s : St) : EV L_impl_PlayBook_6 s = H_impl_PlayBook_6 (keep K_impl_PlayBook_2 s) := ev_loop X I _ _ _
noncomputable def H_spec_PlayBook_6 (t : St) : Option (Ex × St) := (EV B_spec_PlayBook_6 t).bind (thenN fun s => EV L_spec_PlayBook_6 s)
theorem U_spec_PlayBook_6 (s : St) : EV L_spec_PlayBook_6 s = H_spec_PlayBook_6 (keep K_spec_PlayBook_2 s) := ev_loop X I _ _ _
noncomputable def H_laws_sameHandles_4 (t : St) : Option (Ex × St) := (EV B_laws_sameHandles_4 t).bind (thenN fun s => EV L_laws_sameHandles_4 s)
theorem U_laws_sameHandles_4 (s : St) : EV L_laws_sameHandles_4 s = H_laws_sameHandles_4 (keep K_laws_sameHandles_2 s) := ev_loop X I _ _ _
noncomputable def H_laws_toHandleStepS_3 (t : St) : Option (Ex × St) := (EV B_laws_toHandleStepS_3 t).bind (thenN fun s => EV L_laws_toHandleStepS_3 s)
theorem U_laws_toHandleStepS_3 (s : St) : EV L_laws_toHandleStepS_3 s = H_laws_toHandleStepS_3 (keep K_laws_toHandleStepS_1 s) := ev_loop X I _ _ _
noncomputable def H_laws_eqHandleS_4 (t : St) : Option (Ex × St) := (EV B_laws_eqHandleS_4 t).bind (thenN fun s => EV L_laws_eqHandleS_4 s)
theorem U_laws_eqHandleS_4 (s : St) : EV L_laws_eqHandleS_4 s = H_laws_eqHandleS_4 (keep K_laws_eqHandleS_2 s) := ev_loop X I _ _ _
noncomputable def H_laws_eqHandleStepS_4 (t : St) : Option (Ex × St) := (EV B_laws_eqHandleStepS_4 t).bind (thenN fun s => EV L_laws_eqHandleStepS_4 s)
theorem U_laws_eqHandleStepS_4 (s : St) : EV L_laws_eqHandleStepS_4 s = H_laws_eqHandleStepS_4 (keep K_laws_eqHandleStepS_2 s) := ev_loop X I _ _ _
noncomputable def H_laws_markHandleStepS_2 (t : St) : Option (Ex × St) := (EV B_laws_markHandleStepS_2 t).bind (thenN fun s => EV L_laws_markHandleStepS_2 s)
theorem U_laws_markHandleStepS_2 (s : St) : EV L_laws_markHandleStepS_2 s = H_laws_markHandleStepS_2 (keep K_laws_markHandleStepS_1 s) := ev_loop X I _ _ _
noncomputable def H_laws_markHandleS_2 (t : St) : Option (Ex × St) := (EV B_laws_markHandleS_2 t).bind (thenN fun s => EV L_laws_markHandleS_2 s)
theorem U_laws_markHandleS_2 (s : St) : EV L_laws_markHandleS_2 s = H_laws_markHandleS_2 (keep K_laws_markHandleS_1 s) := ev_loop X I _ _ _
noncomputable def H_laws_heldHandleS_2 (t : St) : Option (Ex × St) := (EV B_laws_heldHandleS_2 t).bind (thenN fun s => EV L_laws_heldHandleS_2 s)
theorem U_laws_heldHandleS_2 (s : St) : EV L_laws_heldHandleS_2 s = H_laws_heldHandleS_2 (keep K_laws_heldHandleS_2 s) := ev_loop X I _ _ _
noncomputable def H_laws_toSlotS_3 (t : St) : Option (Ex × St) := (EV B_laws_toSlotS_3 t).bind (thenN fun s => EV L_laws_toSlotS_3 s)
theorem U_laws_toSlotS_3 (s : St) : EV L_laws_toSlotS_3 s = H_laws_toSlotS_3 (keep K_laws_toSlotS_1 s) := ev_loop X I _ _ _
noncomputable def H_laws_eqSlotS_4 (t : St) : Option (Ex × St) := (EV B_laws_eqSlotS_4 t).bind (thenN fun s => EV L_laws_eqSlotS_4 s)
theorem U_laws_eqSlotS_4 (s : St) : EV L_laws_eqSlotS_4 s = H_laws_eqSlotS_4 (keep K_laws_eqSlotS_2 s) := ev_loop X I _ _ _
noncomputable def H_laws_markSlotS_2 (t : St) : Option (Ex × St) := (EV B_laws_markSlotS_2 t).bind (thenN fun s => EV L_laws_markSlotS_2 s)
theorem U_laws_markSlotS_2 (s : St) : EV L_laws_markSlotS_2 s = H_laws_markSlotS_2 (keep K_laws_markSlotS_1 s) := ev_loop X I _ _ _
noncomputable def H_laws_heldSlotS_2 (t : St) : Option (Ex × St) := (EV B_laws_heldSlotS_2 t).bind (thenN fun s => EV L_laws_heldSlotS_2 s)
theorem U_laws_heldSlotS_2 (s : St) : EV L_laws_heldSlotS_2 s = H_laws_heldSlotS_2 (keep K_laws_heldSlotS_2 s) := ev_loop X I _ _ _
noncomputable def H_impl_Book_create_3 (t : St) : Option (Ex × St) := (EV B_impl_Book_create_3 t).bind (thenN fun s => EV L_impl_Book_create_3 s)
theorem U_impl_Book_create_3 (s : St) : EV L_impl_Book_create_3 s = H_impl_Book_create_3 (keep K_impl_Book_create_1 s) := ev_loop X I _ _ _
noncomputable def H_spec_l1Cur_handleSteps_5 (t : St) : Option (Ex × St) := (EV B_spec_l1Cur_handleSteps_5 t).bind (thenN fun s => EV L_spec_l1Cur_handleSteps_5 s)
theorem U_spec_l1Cur_handleSteps_5 (s : St) : EV L_spec_l1Cur_handleSteps_5 s = H_spec_l1Cur_handleSteps_5 (keep K_spec_l1Cur_handleSteps_1 s) := ev_loop X I _ _ _
noncomputable def H_slices_IndexFunc_Slot_2 (t : St) : Option (Ex × St) := (EV B_slices_IndexFunc_Slot_2 t).bind (thenN fun s => EV L_slices_IndexFunc_Slot_2 s)
theorem U_slices_IndexFunc_Slot_2 (s : St) : EV L_slices_IndexFunc_Slot_2 s = H_slices_IndexFunc_Slot_2 (keep K_slices_IndexFunc_Slot_2 s) := ev_loop X I _ _ _
end Go.Proofs.Ytekfjbejfondnaa.Tom
