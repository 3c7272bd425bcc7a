/- Operations that only reckon. Operations that only reckon: all of them. Operations that only reckon: addresses, parts, lengths. Operations: aggregates built; new variables. Operations on memory: new variables, loads, stores. Operations on memory: loads and stores. Operations on memory: new arrays. Operations on memory: slices of given parts, made slices. Operations on memory: append. Operations on memory: append, in place and to a new array. -/
import Derived.Test.YtekfjbejfondnaaKb
import Derived.Laws.StructEq
import Derived.Laws.Tables
import Derived.Laws.MakeOwn
import Derived.Laws.AppendOwn
/-! Operations that only reckon. -/
namespace Go.Proofs.Ytekfjbejfondnaa.Tom
open Go

theorem run_val {P : Program} {W : World} {α : Type} (x : α) : (Sem.pure x).run P W = .ok x W := rfl

/-! Plain operators. -/
def scalarT (P : Program) (t : Nat) : Bool := match P.underlying t with | some (.int _) | some .bool | some .string => true | _ => false
def boolT (P : Program) (t : Nat) : Bool := match P.underlying t with | some .bool => true | _ => false

theorem guard_run {P : Program} {W : World} (op : BinOp) (t : Nat) (x y : Operand) {a b : Value} (ha : ∀ c, a ≠ .agg c) (hb : a ≠ .nilIface) : (eqGuard op t x y a b).run P W = .ok () W := by
  unfold eqGuard
  cases a <;> cases op <;> first | rfl | exact (ha _ rfl).elim | exact (hb rfl).elim

theorem beqBytes (x y : ByteArray) : (x == y) = decide (x = y) := by
  rw [beq_toListBytes, ByteArray.toList_eq, ByteArray.toList_eq]
  by_cases h : x = y
  · subst h; simp
  · rw [decide_eq_false h]
    rw [beq_eq_false_iff_ne]
    exact fun e => h (ByteArray.ext (Array.toList_inj.1 e))

theorem binV_ok {P : Program} {W : World} {op : BinOp} {t : Nat} {a b v : Value} (h : binV op a b = some v) :
    (binOp op t a b).run P W = .ok v W ∧ v.oneCell' = true ∧ (∀ c, a ≠ .agg c) ∧ a ≠ .nilIface := by
  unfold binV at h
  split at h
  case h_1 => -- shl
    split at h
    · cases h
    · rename_i hb
      obtain rfl := Option.some.inj h
      exact ⟨by simp [binOp, Op.shift, hb], rfl, by simp, by simp⟩
  case h_2 =>
    split at h
    · cases h
    · rename_i hb
      obtain rfl := Option.some.inj h
      exact ⟨by simp [binOp, Op.shift, hb], rfl, by simp, by simp⟩
  case h_6 =>
    split at h
    · rename_i hk
      obtain rfl := Option.some.inj h
      obtain ⟨rfl, hb⟩ := hk
      exact ⟨by simp [binOp, Op.intDiv, hb], rfl, by simp, by simp⟩
    · cases h
  case h_7 =>
    split at h
    · rename_i hk
      obtain rfl := Option.some.inj h
      obtain ⟨rfl, hb⟩ := hk
      exact ⟨by simp [binOp, Op.intDiv, hb], rfl, by simp, by simp⟩
    · cases h
  case h_18 x y =>
    split at h
    · rename_i hl
      obtain rfl := Option.some.inj h
      refine ⟨?_, rfl, by simp, by simp⟩
      simp only [binOp, Op.stringOp]
      rw [if_neg]
      · rfl
      · simp only [IntKind.max, IntKind.signed, IntKind.bits]
        simp
        omega
    · cases h
  case h_19 x y =>
    obtain rfl := Option.some.inj h
    refine ⟨?_, rfl, by simp, by simp⟩
    simp only [binOp, Op.stringOp, ← beq_toListBytes, beqBytes]
    rfl
  case h_20 x y =>
    obtain rfl := Option.some.inj h
    refine ⟨?_, rfl, by simp, by simp⟩
    simp only [binOp, Op.stringOp, ← beq_toListBytes, beqBytes]
    rfl
  case h_21 => cases h
  all_goals
    split at h
    · rename_i hk
      obtain rfl := Option.some.inj h
      subst hk
      refine ⟨?_, rfl, by simp, by simp⟩
      simp [binOp, Op.intArith, Op.intBits, Op.intCmp] <;> rfl
    · cases h

/-! Equality of structs of plain cells; a slice held against nil. -/
def kindB (P : Program) (t : Nat) : Nat → Bool
  | 0 => match P.underlying t with | some (.int _) => true | _ => false
  | 1 => match P.underlying t with | some .bool => true | _ => false
  | 2 => match P.underlying t with | some .string => true | _ => false
  | _ => false

def fieldsB (P : Program) : Nat → List Nat → List Field → Bool
  | _, [], [] => true
  | k, q :: ks, f :: fs => f.name != "_" && f.offset == k && kindB P f.type q && fieldsB P (k + 1) ks fs
  | _, _, _ => false

theorem kind_isAgg {P : Program} {t q : Nat} (h : kindB P t q = true) (W : World) : (isAgg t).run P W = .ok false W := by
  unfold kindB at h
  split at h <;> first | cases h | skip
  all_goals split at h <;> first | (rename_i hu; simp [isAgg, und_run hu]; done) | cases h

theorem eq1_ok {P : Program} {g : Gh} {fo : NSet} {b : List (Nat × Nat)} {W : World} {q : Nat} {v w : V} {x y : Value} {r : Bool} (h : eq1 q v w = some r) (hx : VOk g fo b v x) (hy : VOk g fo b w y) {t : Nat} (ht : kindB P t q = true) (d : Nat) :
    (Op.equalIn (d + 1) t x y).run P W = .ok r W := by
  unfold eq1 at h
  split at h
  · split at h
    · rename_i hk
      subst hk
      obtain rfl := Option.some.inj h
      simp only [VOk] at hx hy
      obtain ⟨rfl, _⟩ := hx
      obtain ⟨rfl, _⟩ := hy
      unfold kindB at ht
      simp only at ht
      split at ht
      · rename_i hu; rw [run_equalIn_int _ _ _ _ _ _ _ hu]; rfl
      · cases ht
    · cases h
  · obtain rfl := Option.some.inj h
    simp only [VOk] at hx hy
    obtain ⟨rfl, _⟩ := hx
    obtain ⟨rfl, _⟩ := hy
    unfold kindB at ht
    simp only at ht
    split at ht
    · rename_i hu; exact run_equalIn_bool' _ _ _ _ _ hu
    · cases ht
  · obtain rfl := Option.some.inj h
    simp only [VOk] at hx hy
    obtain ⟨rfl, _⟩ := hx
    obtain ⟨rfl, _⟩ := hy
    unfold kindB at ht
    simp only at ht
    split at ht
    · rename_i hu; rw [run_equalIn_string _ _ _ _ _ hu, ← beq_toListBytes, beqBytes]
    · cases ht
  · cases h

theorem eqL_ok {P : Program} {g : Gh} {fo : NSet} {b : List (Nat × Nat)} {W : World} (d : Nat) (xs ys : Array Value) : ∀ (ks : List Nat) (fs : List Field) (k : Nat) (l m : List V) (r : Bool),
    eqL ks l m = some r → VsOk g fo b l (xs.toList.drop k) → VsOk g fo b m (ys.toList.drop k) → fieldsB P k ks fs = true → (Op.eqFields (d + 1) xs ys fs).run P W = .ok r W
  | [], [], k, l, m, r, h, hx, hy, hf => by
    unfold eqL at h
    split at h
    · obtain rfl := Option.some.inj h; rfl
    · rename_i hk; cases hk
    · cases h
  | q :: ks, f :: fs, k, l, m, r, h, hx, hy, hf => by
    unfold eqL at h
    split at h
    · rename_i hk; cases hk
    · rename_i q' ks' v l' w m' hk
      obtain ⟨rfl, rfl⟩ := List.cons.inj hk
      obtain ⟨b1, h1, h⟩ := Option.bind_eq_some_iff.1 h
      obtain ⟨c, h2, rfl⟩ := Option.map_eq_some_iff.1 h
      obtain ⟨x, xs', ex, hx1, hx2⟩ := hx
      obtain ⟨y, ys', ey, hy1, hy2⟩ := hy
      simp only [fieldsB, Bool.and_eq_true, bne_iff_ne, beq_iff_eq] at hf
      obtain ⟨⟨⟨f1, f2⟩, f3⟩, f4⟩ := hf
      have gx : xs[k]? = some x := by
        have := congrArg (fun l => l[0]?) ex
        simpa using this
      have gy : ys[k]? = some y := by
        have := congrArg (fun l => l[0]?) ey
        simpa using this
      have e1 := eq1_ok (P := P) (W := W) h1 hx1 hy1 f3 d
      have tx : xs.toList.drop (k + 1) = xs' := by rw [← List.drop_drop, ex]; rfl
      have ty : ys.toList.drop (k + 1) = ys' := by rw [← List.drop_drop, ey]; rfl
      have ih := eqL_ok (P := P) (W := W) d xs ys ks fs (k + 1) l' m' c h2 (tx ▸ hx2) (ty ▸ hy2) f4
      simp only [Op.eqFields, Sem.run_ite, if_pos f1, Sem.run_bind, part, kind_isAgg f3, Result.andThen_ok, Bool.false_eq_true, if_false, f2, gx, gy, Sem.run_pure, e1]
      cases b1
      · simp
      · simpa using ih
    · cases h
  | [], _ :: _, _, _, _, _, _, _, _, hf => by cases hf
  | _ :: _, [], _, _, _, _, _, _, _, hf => by cases hf

def eqB (P : Program) (t : Nat) (ks : List Nat) : Bool :=
  match P.underlying t with
  | some (.struct fs) => !P.stoodInHeld t && !P.eqGuardType P.depth t && fieldsB P 0 ks fs.toList
  | _ => false

def sliceT (P : Program) (t : Nat) : Bool := match P.underlying t with | some (.slice _) => true | _ => false

theorem eqV_ok {P : Program} {g : Gh} {fo : NSet} {b : List (Nat × Nat)} {W : World} {t : Nat} {ks : List Nat} {v w : V} {x y : Value} {q : Bool} (h : eqV ks v w = some q) (hx : VOk g fo b v x) (hy : VOk g fo b w y) (ht : eqB P t ks = true)
    (o1 o2 : Operand) (neg : Bool) :
    (do eqGuard (if neg then .neq else .eql) t o1 o2 x y; binOp (if neg then .neq else .eql) t x y : Sem Value).run P W = .ok (.bool (if neg then !q else q)) W := by
  unfold eqV at h
  split at h
  · obtain ⟨xs, rfl, hx⟩ := hx
    obtain ⟨ys, rfl, hy⟩ := hy
    unfold eqB at ht
    split at ht
    · rename_i fs hu
      simp only [Bool.and_eq_true, Bool.not_eq_true'] at ht
      obtain ⟨⟨h1, h2⟩, h3⟩ := ht
      have hfs : P.fieldsOf t = fs := by simp [Program.fieldsOf, hu]
      have hu' : P.underlying t = some (.struct (P.fieldsOf t)) := by rw [hfs]; exact hu
      have hE := eqL_ok (P := P) (W := W) 9998 xs.toArray ys.toArray ks fs.toList 0 _ _ q h (by simpa using hx) (by simpa using hy) h3
      have hS := run_equalIn_struct W 9999 t xs.toArray ys.toArray hu' h1
      rw [hfs, hE] at hS
      rw [Sem.run_bind, run_eqGuard_agg _ _ _ _ _ _ _ h2, Result.andThen_ok]
      cases neg
      · simp only [Bool.false_eq_true, if_false]; rw [run_eql_struct, hS]; rfl
      · simp only [if_true]; rw [run_neq_struct, hS]; rfl
    · cases ht
  · cases h

theorem eqSl1 {P : Program} {W : World} {t e : Nat} (he : P.underlying t = some (.slice e)) (d n c n' c' : Nat) (a : Option Addr) : (Op.equalIn (d + 1) t (.slice none n c) (.slice a n' c')).run P W = .ok a.isNone W := by
  simp [Op.equalIn, und_run he]
theorem eqSl2 {P : Program} {W : World} {t e : Nat} (he : P.underlying t = some (.slice e)) (d n c n' c' : Nat) (a : Addr) : (Op.equalIn (d + 1) t (.slice (some a) n c) (.slice none n' c')).run P W = .ok false W := by
  simp [Op.equalIn, und_run he]

theorem eqN_ok {P : Program} {g : Gh} {r : Roots} {b : List (Nat × Nat)} {W : World} {t : Nat} {v w : V} {x y : Value} {q : Bool} (h : eqN r v w = some q) (hx : VOk g (nR r) b v x) (hy : VOk g (nR r) b w y) (ht : sliceT P t = true)
    (o1 o2 : Operand) (neg : Bool) :
    (do eqGuard (if neg then .neq else .eql) t o1 o2 x y; binOp (if neg then .neq else .eql) t x y : Sem Value).run P W = .ok (.bool (if neg then !q else q)) W := by
  obtain ⟨e, he⟩ : ∃ e, P.underlying t = some (.slice e) := by
    unfold sliceT at ht
    split at ht
    · rename_i e he; exact ⟨e, he⟩
    · cases ht
  have sl : ∀ {a : Option Addr} {n c : Nat} {a' : Option Addr} {n' c' : Nat}, (Op.equal t (.slice a n c) (.slice a' n' c')).run P W = .ok q W → x = .slice a n c → y = .slice a' n' c' →
      (do eqGuard (if neg then .neq else .eql) t o1 o2 x y; binOp (if neg then .neq else .eql) t x y : Sem Value).run P W = .ok (.bool (if neg then !q else q)) W := by
    rintro a n c a' n' c' hq rfl rfl
    rw [Sem.run_bind, guard_run _ _ _ _ (by simp) (by simp), Result.andThen_ok]
    cases neg <;> simp [binOp, hq]
  have some' : ∀ {L : Loc} {o k : Nat} {z : Value}, VOk g (nR r) b (.sl L o k) z → 0 < k ∧ (nodeAt r L).isSome = true → ∃ a c, z = .slice (some a) k c := by
    rintro L o k z ⟨a, c, rfl, hz⟩ ⟨h1, h2⟩
    obtain ⟨n, hn⟩ := Option.isSome_iff_exists.1 h2
    obtain ⟨h3, h4, h5⟩ := hz n hn
    obtain ⟨qq, oo, h6, rfl⟩ := h5 (by omega)
    exact ⟨_, c, rfl⟩
  unfold eqN at h
  split at h
  · obtain rfl := Option.some.inj h
    exact sl (eqSl1 he 9999 _ _ _ _ none) hx hy
  · split at h
    · rename_i hk
      obtain rfl := Option.some.inj h
      obtain ⟨a, c, e1⟩ := some' hx hk
      exact sl (eqSl2 he 9999 _ _ _ _ _) e1 hy
    · cases h
  · split at h
    · rename_i hk
      obtain rfl := Option.some.inj h
      obtain ⟨a, c, e1⟩ := some' hy hk
      exact sl (eqSl1 he 9999 _ _ _ _ (some a)) hx e1
    · cases h
  · cases h

end Go.Proofs.Ytekfjbejfondnaa.Tom
/-! Operations that only reckon: all of them. -/
namespace Go.Proofs.Ytekfjbejfondnaa.Tom
open Go

def optB : Option Operand → Option Opd → Bool
  | none, none => true
  | some x, some y => opdB x y
  | _, _ => false

def strT (P : Program) (t : Nat) : Bool := match P.underlying t with | some .string => true | _ => false
def sliceB (P : Program) (t es : Nat) : Bool := match P.underlying t with | some (.slice e) => sizeB P e es | _ => false
def aggB (P : Program) (t : Nat) (agg : Bool) : Bool := match P.underlying t with
  | some (.struct _) => agg
  | some (.array _ _) => agg
  | some _ => !agg
  | none => false

theorem aggB_run {P : Program} {t : Nat} {agg : Bool} (h : aggB P t agg = true) (W : World) : (isAgg t).run P W = .ok agg W := by
  unfold aggB at h
  split at h
  · rename_i hu; simp [isAgg, und_run hu, h]
  · rename_i hu; simp [isAgg, und_run hu, h]
  · rename_i d h1 h2 hu
    rw [isAgg, Sem.run_bind, und_run hu, Result.andThen_ok]
    have : agg = false := by simpa using h
    subst this
    cases d <;> first | rfl | exact (h1 _ rfl).elim | exact (h2 _ _ rfl).elim | exact (h1 _ hu).elim | exact (h2 _ _ hu).elim
  · cases h

/-- A part of a struct's cells. -/
theorem part_run {P : Program} {W : World} {t n off : Nat} {agg : Bool} (ha : aggB P t agg = true) (hs : sizeB P t n = true) {g : Gh} {fo : NSet} {b : List (Nat × Nat)} {l : List V} {xs : List Value} (hv : VsOk g fo b l xs)
    (hl : off + n ≤ l.length) {v : V} (ho : one agg ((l.drop off).take n) = some v) : ∃ x, (part t xs.toArray off).run P W = .ok x W ∧ VOk g fo b v x := by
  have hlen := hv.length
  have hsub : VsOk g fo b ((l.drop off).take n) ((xs.drop off).take n) := by
    refine VsOk.mk (by simp [hlen]) fun k u x hk hx => ?_
    rw [List.getElem?_take] at hk hx
    split at hk
    · rename_i hkn
      rw [if_pos hkn] at hx
      rw [List.getElem?_drop] at hk hx
      obtain ⟨y, h1, h2⟩ := hv.get _ _ hk
      rw [hx] at h1
      exact Option.some.inj h1 ▸ h2
    · cases hk
  unfold one at ho
  split at ho
  · obtain rfl := Option.some.inj ho
    refine ⟨.agg (xs.toArray.extract off (off + n)), ?_, _, ?_, hsub⟩
    · simp [part, aggB_run ha, sizeB_run hs]
    · simp
  · rename_i w h1
    obtain rfl := Option.some.inj ho
    have hx1 : (xs.drop off).take n = [xs[off]?.getD undef] ∧ off < xs.length := by
      rw [h1] at hsub
      obtain ⟨y, ys, e1, _, e2⟩ := hsub
      simp only [VsOk] at e2
      subst e2
      have hn : 0 < n := by
        cases n with
        | zero => simp at h1
        | succ n => omega
      have h0 : off < xs.length := by
        have := congrArg List.length e1
        simp at this
        omega
      refine ⟨?_, h0⟩
      have := congrArg (fun l => l[0]?) e1
      simp only [List.getElem?_take, hn, if_true, List.getElem?_drop, Nat.add_zero, List.getElem?_cons_zero] at this
      rw [e1, this]
      rfl
    rw [h1, hx1.1] at hsub
    obtain ⟨y, ys, e1, e2, _⟩ := hsub
    obtain ⟨rfl, rfl⟩ := List.cons.inj e1
    refine ⟨_, ?_, e2⟩
    rw [List.getElem?_eq_getElem hx1.2]
    simp [part, aggB_run ha, hx1.2]
  · cases ho

def fieldB (P : Program) (t f off n : Nat) (agg : Bool) : Bool :=
  match P.underlying t with
  | some (.struct fs) => match fs[f]? with
    | some fd => fd.offset == off && sizeB P fd.type n && aggB P fd.type agg
    | none => false
  | _ => false

def faddrB (P : Program) (t f off : Nat) : Bool :=
  match P.underlying t with
  | some (.struct fs) => match fs[f]? with
    | some fd => fd.offset == off && (match P.info? fd.type with | some i => i.size != 0 | none => false)
    | none => false
  | _ => false

def arrB (P : Program) (t len es : Nat) : Bool := match P.underlying t with | some (.array n e) => n == len && sizeB P e es | _ => false
def arrA (P : Program) (t : Nat) (agg : Bool) : Bool := match P.underlying t with | some (.array _ e) => aggB P e agg | _ => false
def intT (P : Program) (t : Nat) : Bool := match P.underlying t with | some (.int _) => true | _ => false
def intK (P : Program) (t : Nat) (k : IntKind) : Bool := match P.underlying t with | some (.int k') => k == k' | _ => false

/-! The operations that only reckon, the model's beside the machine's. -/
def mvB (y : Opd) : Op → Bool
  | .move x => opdB x y
  | .assign x => opdB x y
  | _ => false
def pickB (c' x' y' : Opd) : Op → Bool
  | .pick c x y => opdB c c' && opdB x x' && opdB y y'
  | _ => false
def nilB (y : Opd) : Op → Bool
  | .nilCheck x => opdB x y
  | _ => false
def bin2B (op' : BinOp) (tb : Nat → Bool) (x' y' : Opd) : Op → Bool
  | .binOp op t x y _ => decide (op = op') && tb t && opdB x x' && opdB y y'
  | _ => false
def unB (op' : UnOp) (x' : Opd) : Op → Bool
  | .unOp op _ x => decide (op = op') && opdB x x'
  | _ => false
def convB (P : Program) (k : IntKind) (x' : Opd) : Op → Bool
  | .convert s t x => intT P s && intK P t k && opdB x x'
  | _ => false
def mkfnB (f' : Nat) (cs' : List Opd) : Op → Bool
  | .makeFunc (.func f) fst cs => fst.size == 0 && f == f' && opdL cs.toList cs'
  | _ => false
def slice2B (tb : Nat → Bool) (x' : Opd) (lo' hi' : Option Opd) : Op → Bool
  | .slice t x lo hi mx => mx.isNone && tb t && opdB x x' && optB lo lo' && optB hi hi'
  | _ => false
def faddr2B (P : Program) (x' : Opd) (off : Nat) : Op → Bool
  | .fieldAddr t x f => faddrB P t f off && opdB x x'
  | _ => false
def field2B (P : Program) (x' : Opd) (off n : Nat) (agg : Bool) : Op → Bool
  | .field t x f => fieldB P t f off n agg && opdB x x'
  | _ => false
def iaddrB (tb : Nat → Bool) (x' i' : Opd) : Op → Bool
  | .indexAddr t x i => tb t && opdB x x' && opdB i i'
  | _ => false
def indexB (tb : Nat → Bool) (x' i' : Opd) : Op → Bool
  | .index t x i => tb t && opdB x x' && opdB i i'
  | _ => false
def extrB (x' : Opd) (i' : Nat) : Op → Bool
  | .extract x i => i == i' && opdB x x'
  | _ => false
def callB (bt : Builtin) (k : List Operand → List Nat → Bool) : Op → Bool
  | .call c => (match c.callee with | .builtin x => decide (x = bt) | _ => false) && k c.args.toList c.argTypes.toList
  | _ => false
def args1 (tb : Nat → Bool) (x' : Opd) (args : List Operand) (ts : List Nat) : Bool :=
  match args, ts with
  | [x], [t] => tb t && opdB x x'
  | _, _ => false
def args2 (tb : Nat → Nat → Bool) (x' y' : Opd) (args : List Operand) (ts : List Nat) : Bool :=
  match args, ts with
  | [x, y], [t, u] => tb t u && opdB x x' && opdB y y'
  | _, _ => false

theorem strT_ok {P : Program} {t : Nat} (h : strT P t = true) : P.underlying t = some .string := by
  unfold strT at h
  split at h
  · assumption
  · cases h
theorem boolT_ok {P : Program} {t : Nat} (h : boolT P t = true) : P.underlying t = some .bool := by
  unfold boolT at h
  split at h
  · assumption
  · cases h

/-- The bounds of a slice expression. -/
theorem bounds_run {P : Program} {W : World} {C : Ctx} {S : St} {g : Gh} {tm : Nat → Value} (h : Inv C S W g tm) {lo hi : Option Operand} {lo' hi' : Option Opd} (h1 : optB lo lo' = true) (h2 : optB hi hi' = true) {len cap : Nat} (hc : len ≤ cap) (sl : Bool) {q : Nat × Nat}
    (hq : bounds (fun o => intOf? (o.ev S.e)) lo' hi' len = some q) : (Instr.sliceBounds sl len cap (lo.map (evalT tm)) (hi.map (evalT tm)) none).run P W = .ok (q.1, q.2, cap) W ∧ q.1 ≤ q.2 ∧ q.2 ≤ len := by
  have iv : ∀ {o : Operand} {o' : Opd} {n : Int}, opdB o o' = true → intOf? (o'.ev S.e) = some n → ∃ k, evalT tm o = .int k n := by
    intro o o' n ho hn
    have := opd_ok h ho
    unfold intOf? at hn
    split at hn
    · rename_i k m hv
      obtain rfl := Option.some.inj hn
      rw [hv] at this
      exact ⟨k, this.1⟩
    · cases hn
  have sb : ∀ {o : Operand} {n : Int} {k : IntKind} (y : Nat) (code : BoundsCode), evalT tm o = .int k n → 0 ≤ n → n ≤ y → (Instr.sliceBound (evalT tm o) y code).run P W = .ok n.toNat W := by
    intro o n k y code ho h1 h2
    simp [Instr.sliceBound, ho, asIntOf, h1, h2]
  unfold bounds at hq
  obtain ⟨hn, hh, hq⟩ := Option.bind_eq_some_iff.1 hq
  obtain ⟨ln, hl, hq⟩ := Option.bind_eq_some_iff.1 hq
  split at hq
  · rename_i hb
    obtain ⟨hb1, hb2, hb3⟩ := hb
    obtain rfl := Option.some.inj hq
    refine ⟨?_, by simp only; omega, by simp only; omega⟩
    cases hi with
    | none =>
      cases hi' with
      | some _ => cases h2
      | none =>
        simp only at hh
        obtain rfl := Option.some.inj hh
        cases lo with
        | none =>
          cases lo' with
          | some _ => cases h1
          | none =>
            simp only at hl
            obtain rfl := Option.some.inj hl
            simp [Instr.sliceBounds]
        | some o =>
          cases lo' with
          | none => cases h1
          | some o' =>
            obtain ⟨k, hk⟩ := iv h1 hl
            have s1 := fun code => sb (o := o) len code hk (by omega) (by omega)
            simp [Instr.sliceBounds, s1]
    | some oh =>
      cases hi' with
      | none => cases h2
      | some oh' =>
        obtain ⟨kh, hkh⟩ := iv h2 hh
        have s2 := fun code => sb (o := oh) cap code hkh (by omega) (by omega)
        cases lo with
        | none =>
          cases lo' with
          | some _ => cases h1
          | none =>
            simp only at hl
            obtain rfl := Option.some.inj hl
            simp [Instr.sliceBounds, s2]
        | some o =>
          cases lo' with
          | none => cases h1
          | some o' =>
            obtain ⟨k, hk⟩ := iv h1 hl
            have s1 := fun code => sb (o := o) hn.toNat code hk (by omega) (by omega)
            simp [Instr.sliceBounds, s1, s2]
  · cases hq

/-- What a reckoning operation gives. -/
def Pure (P : Program) (S : St) (W : World) (g : Gh) (tm : Nat → Value) (o : Oper) (out : Out) : Prop :=
  ∃ v, (execOp (evalT tm) o).run P W = .ok (.value v) W ∧ VOk g (nR S.r) S.b out.v v ∧ out.e = [] ∧ out.r = S.r ∧ out.b = S.b ∧ out.p = []

section
variable {P : Program} {F : Fun} {C : Ctx} {S : St} {W : World} {g : Gh} {tm : Nat → Value} {o : Oper} {d : Nat} {out : Out}

theorem run_value {s : Sem Value} {v : Value} (hs : s.run P W = .ok v W) : (do pure (.value (← s)) : Sem Next).run P W = .ok (.value v) W := by
  rw [Sem.run_bind, hs]; rfl

theorem mv_ok (h : Inv C S W g tm) {y : Opd} (hp : mvB y o.op = true) (ha : act F d S.e S.r S.b (.mv y) = some out) : Pure P S W g tm o out := by
  obtain ⟨dst, oop, ty, pos, after, guard⟩ := o
  obtain rfl := Option.some.inj ha
  unfold mvB at hp
  split at hp
  · rename_i x e; simp only at e; subst e
    exact ⟨_, rfl, opd_ok h hp, rfl, rfl, rfl, rfl⟩
  · rename_i x e; simp only at e; subst e
    exact ⟨_, rfl, opd_ok h hp, rfl, rfl, rfl, rfl⟩
  · cases hp

theorem pick_ok (h : Inv C S W g tm) {c x y : Opd} (hp : pickB c x y o.op = true) (ha : act F d S.e S.r S.b (.pick c x y) = some out) : Pure P S W g tm o out := by
  obtain ⟨dst, oop, ty, pos, after, guard⟩ := o
  unfold pickB at hp
  split at hp
  · rename_i c' x' y' e; simp only at e; subst e
    simp only [Bool.and_eq_true] at hp
    have hc := opd_ok h hp.1.1
    have hx := opd_ok h hp.1.2
    have hy := opd_ok h hp.2
    simp only [act] at ha
    split at ha
    · rename_i t ht
      rw [ht] at hc
      obtain rfl := Option.some.inj ha
      refine ⟨if t then evalT tm x' else evalT tm y', ?_, ?_, rfl, rfl, rfl, rfl⟩
      · simp [execOp, hc.1, asBool]
      · cases t
        · exact hy
        · exact hx
    · cases ha
  · cases hp

theorem nil_ok (h : Inv C S W g tm) {y : Opd} (hp : nilB y o.op = true) (ha : act F d S.e S.r S.b (.nilchk y) = some out) : Pure P S W g tm o out := by
  obtain ⟨dst, oop, ty, pos, after, guard⟩ := o
  unfold nilB at hp
  split at hp
  · rename_i x e; simp only at e; subst e
    have hx := opd_ok h hp
    simp only [act] at ha
    split at ha
    · rename_i L i c hv
      rw [hv] at hx
      obtain rfl := Option.some.inj ha
      refine ⟨evalT tm x, ?_, hx, rfl, rfl, rfl, rfl⟩
      obtain ⟨a, e1, _⟩ := hx
      simp [execOp, e1]
    · rename_i k c hv
      rw [hv] at hx
      obtain rfl := Option.some.inj ha
      refine ⟨evalT tm x, ?_, hx, rfl, rfl, rfl, rfl⟩
      obtain ⟨a, e1, _⟩ := hx
      simp [execOp, e1]
    · cases ha
  · cases hp

theorem bin_ok (h : Inv C S W g tm) {op : BinOp} {x y : Opd} (hp : bin2B op (fun _ => true) x y o.op = true) (ha : act F d S.e S.r S.b (.bin op x y) = some out) : Pure P S W g tm o out := by
  obtain ⟨dst, oop, ty, pos, after, guard⟩ := o
  unfold bin2B at hp
  split at hp
  · rename_i op' t x' y' _ e; simp only at e; subst e
    simp only [Bool.and_eq_true, decide_eq_true_eq] at hp
    obtain ⟨⟨⟨rfl, _⟩, h1⟩, h2⟩ := hp
    have hx := opd_ok h h1
    have hy := opd_ok h h2
    simp only [act] at ha
    split at ha
    · rename_i u w hu hw
      rw [hu] at hx
      rw [hw] at hy
      obtain ⟨v, hv, rfl⟩ := Option.map_eq_some_iff.1 ha
      obtain ⟨e1, e2, e3, e4⟩ := binV_ok (P := P) (W := W) (t := t) hv
      simp only [VOk] at hx hy
      obtain ⟨rfl, _⟩ := hx
      obtain ⟨rfl, _⟩ := hy
      refine ⟨v, run_value ?_, ⟨rfl, e2⟩, rfl, rfl, rfl, rfl⟩
      rw [Sem.run_bind, guard_run _ _ _ _ e3 e4, Result.andThen_ok]
      exact e1
    · cases ha
  · cases hp

theorem beq_ok (h : Inv C S W g tm) {neg : Bool} {x y : Opd} (hp : bin2B (if neg then .neq else .eql) (boolT P) x y o.op = true) (ha : act F d S.e S.r S.b (.beq neg x y) = some out) : Pure P S W g tm o out := by
  obtain ⟨dst, oop, ty, pos, after, guard⟩ := o
  unfold bin2B at hp
  split at hp
  · rename_i op' t x' y' _ e; simp only at e; subst e
    simp only [Bool.and_eq_true, decide_eq_true_eq] at hp
    obtain ⟨⟨⟨rfl, h0⟩, h1⟩, h2⟩ := hp
    have hx := opd_ok h h1
    have hy := opd_ok h h2
    simp only [act] at ha
    split at ha
    · rename_i u w hu hw
      rw [hu] at hx
      rw [hw] at hy
      obtain rfl := Option.some.inj ha
      refine ⟨_, run_value ?_, ⟨rfl, rfl⟩, rfl, rfl, rfl, rfl⟩
      rw [Sem.run_bind, hx.1, hy.1, guard_run _ _ _ _ (by simp) (by simp), Result.andThen_ok]
      cases neg <;> simp [binOp, Op.equal, Op.maxDepth, run_equalIn_bool' _ _ _ _ _ (boolT_ok h0)]
    · cases ha
  · cases hp

theorem eqv_ok (h : Inv C S W g tm) {neg : Bool} {ks : List Nat} {x y : Opd} (hp : bin2B (if neg then .neq else .eql) (eqB P · ks) x y o.op = true) (ha : act F d S.e S.r S.b (.eqv neg ks x y) = some out) : Pure P S W g tm o out := by
  obtain ⟨dst, oop, ty, pos, after, guard⟩ := o
  unfold bin2B at hp
  split at hp
  · rename_i op' t x' y' _ e; simp only at e; subst e
    simp only [Bool.and_eq_true, decide_eq_true_eq] at hp
    obtain ⟨⟨⟨rfl, h0⟩, h1⟩, h2⟩ := hp
    simp only [act] at ha
    obtain ⟨q, hq, rfl⟩ := Option.map_eq_some_iff.1 ha
    exact ⟨_, run_value (eqV_ok hq (opd_ok h h1) (opd_ok h h2) h0 _ _ _), ⟨rfl, rfl⟩, rfl, rfl, rfl, rfl⟩
  · cases hp

theorem eqn_ok (h : Inv C S W g tm) {neg : Bool} {x y : Opd} (hp : bin2B (if neg then .neq else .eql) (sliceT P) x y o.op = true) (ha : act F d S.e S.r S.b (.eqn neg x y) = some out) : Pure P S W g tm o out := by
  obtain ⟨dst, oop, ty, pos, after, guard⟩ := o
  unfold bin2B at hp
  split at hp
  · rename_i op' t x' y' _ e; simp only at e; subst e
    simp only [Bool.and_eq_true, decide_eq_true_eq] at hp
    obtain ⟨⟨⟨rfl, h0⟩, h1⟩, h2⟩ := hp
    simp only [act] at ha
    obtain ⟨q, hq, rfl⟩ := Option.map_eq_some_iff.1 ha
    exact ⟨_, run_value (eqN_ok hq (opd_ok h h1) (opd_ok h h2) h0 _ _ _), ⟨rfl, rfl⟩, rfl, rfl, rfl, rfl⟩
  · cases hp

theorem un_ok (h : Inv C S W g tm) {op : UnOp} {x : Opd} (hp : unB op x o.op = true) (ha : act F d S.e S.r S.b (.un op x) = some out) : Pure P S W g tm o out := by
  obtain ⟨dst, oop, ty, pos, after, guard⟩ := o
  unfold unB at hp
  split at hp
  · rename_i op' _ x' e; simp only at e; subst e
    simp only [Bool.and_eq_true, decide_eq_true_eq] at hp
    obtain ⟨rfl, h1⟩ := hp
    have hx := opd_ok h h1
    simp only [act] at ha
    split at ha
    · rename_i t hv
      rw [hv] at hx
      obtain rfl := Option.some.inj ha
      exact ⟨_, run_value (by rw [hx.1]; rfl), ⟨rfl, rfl⟩, rfl, rfl, rfl, rfl⟩
    · rename_i k n hv
      rw [hv] at hx
      obtain rfl := Option.some.inj ha
      exact ⟨_, run_value (by rw [hx.1]; rfl), ⟨rfl, rfl⟩, rfl, rfl, rfl, rfl⟩
    · cases ha
  · cases hp

theorem conv_ok (h : Inv C S W g tm) {k : IntKind} {x : Opd} (hp : convB P k x o.op = true) (ha : act F d S.e S.r S.b (.conv k x) = some out) : Pure P S W g tm o out := by
  obtain ⟨dst, oop, ty, pos, after, guard⟩ := o
  unfold convB at hp
  split at hp
  · rename_i s t x' e; simp only at e; subst e
    simp only [Bool.and_eq_true] at hp
    obtain ⟨⟨h0, h1⟩, h2⟩ := hp
    have hx := opd_ok h h2
    simp only [act] at ha
    split at ha
    · rename_i k' n hv
      rw [hv] at hx
      obtain rfl := Option.some.inj ha
      refine ⟨_, run_value ?_, ⟨rfl, rfl⟩, rfl, rfl, rfl, rfl⟩
      unfold intT at h0
      unfold intK at h1
      split at h0
      · rename_i k1 e1
        split at h1
        · rename_i k2 e2
          obtain rfl := eq_of_beq h1
          simp [convert, und_run e1, und_run e2, hx.1, Conv.intToInt]
        · cases h1
      · cases h0
    · cases ha
  · cases hp

end
end Go.Proofs.Ytekfjbejfondnaa.Tom
/-! Operations that only reckon: addresses, parts, lengths. -/
namespace Go.Proofs.Ytekfjbejfondnaa.Tom
open Go

section
variable {P : Program} {F : Fun} {C : Ctx} {S : St} {W : World} {g : Gh} {tm : Nat → Value} {o : Oper} {d : Nat} {out : Out}

theorem mkfn_ok (h : Inv C S W g tm) {f : Nat} {cs : List Opd} (hp : mkfnB f cs o.op = true) (ha : act F d S.e S.r S.b (.mkfn f cs) = some out) : Pure P S W g tm o out := by
  obtain ⟨dst, oop, ty, pos, after, guard⟩ := o
  unfold mkfnB at hp
  split at hp
  · rename_i f' fst cs' e; simp only at e; subst e
    simp only [Bool.and_eq_true, beq_iff_eq] at hp
    obtain ⟨⟨h0, rfl⟩, h2⟩ := hp
    have hx := opds_ok h h2
    obtain rfl := Option.some.inj ha
    have hf : fst = #[] := Array.eq_empty_of_size_eq_zero h0
    subst hf
    exact ⟨_, run_value rfl, ⟨_, by rw [show cs'.map (evalT tm) = (cs'.toList.map (evalT tm)).toArray from by apply Array.ext'; simp]; simp, hx⟩, rfl, rfl, rfl, rfl⟩
  · cases hp

theorem faddr_ok (h : Inv C S W g tm) {x : Opd} {off : Nat} (hp : faddr2B P x off o.op = true) (ha : act F d S.e S.r S.b (.faddr x off) = some out) : Pure P S W g tm o out := by
  obtain ⟨dst, oop, ty, pos, after, guard⟩ := o
  unfold faddr2B at hp
  split at hp
  · rename_i t x' f e; simp only at e; subst e
    simp only [Bool.and_eq_true] at hp
    obtain ⟨h0, h1⟩ := hp
    have hx := opd_ok h h1
    unfold faddrB at h0
    split at h0
    · rename_i fs hu
      split at h0
      · rename_i fd hfd
        simp only [Bool.and_eq_true, beq_iff_eq] at h0
        obtain ⟨h2, h3⟩ := h0
        subst h2
        split at h3
        · rename_i i hi
          have hrun : ∀ a : Addr, evalT tm x' = .pointer (some a) → (Instr.fieldAt t (evalT tm x') f).run P W = .ok (.pointer (some (a.add fd.offset))) W := by
            intro a ha
            have hz : ¬ i.size = 0 := by simpa using h3
            simp [Instr.fieldAt, und_run hu, hfd, ha, Instr.sureAddr, fieldPlace, sizeOf, typeInfo, hi, hz]
          simp only [act] at ha
          split at ha
          · rename_i L j c hv
            rw [hv] at hx
            obtain ⟨a, e1, e2⟩ := hx
            obtain rfl := Option.some.inj ha
            refine ⟨_, run_value (hrun a e1), ⟨_, rfl, fun n hn => ?_⟩, rfl, rfl, rfl, rfl⟩
            obtain ⟨q, oo, e3, rfl⟩ := e2 n hn
            exact ⟨q, oo, e3, by rw [add_lit]; simp [Nat.add_assoc]⟩
          · rename_i k c hv
            rw [hv] at hx
            obtain ⟨a, e1, e2⟩ := hx
            obtain rfl := Option.some.inj ha
            refine ⟨_, run_value (hrun a e1), ⟨_, rfl, fun n hn => ?_⟩, rfl, rfl, rfl, rfl⟩
            rw [e2 n hn, add_lit]
            simp [Nat.add_assoc]
          · cases ha
        · cases h3
      · cases h0
    · cases h0
  · cases hp

theorem field_ok (h : Inv C S W g tm) {x : Opd} {off n : Nat} {agg : Bool} (hp : field2B P x off n agg o.op = true) (ha : act F d S.e S.r S.b (.field x off n agg) = some out) : Pure P S W g tm o out := by
  obtain ⟨dst, oop, ty, pos, after, guard⟩ := o
  unfold field2B at hp
  split at hp
  · rename_i t x' f e; simp only at e; subst e
    simp only [Bool.and_eq_true] at hp
    obtain ⟨h0, h1⟩ := hp
    have hx := opd_ok h h1
    unfold fieldB at h0
    split at h0
    · rename_i fs hu
      split at h0
      · rename_i fd hfd
        simp only [Bool.and_eq_true, beq_iff_eq] at h0
        obtain ⟨⟨h2, h3⟩, h4⟩ := h0
        subst h2
        simp only [act] at ha
        split at ha
        · rename_i l hv
          rw [hv] at hx
          obtain ⟨xs, e1, e2⟩ := hx
          split at ha
          · rename_i hl
            obtain ⟨v, hv', rfl⟩ := Option.map_eq_some_iff.1 ha
            obtain ⟨y, e3, e4⟩ := part_run (P := P) (W := W) h4 h3 e2 hl hv'
            refine ⟨y, run_value ?_, e4, rfl, rfl, rfl, rfl⟩
            simp [Instr.field, und_run hu, hfd, e1, asAgg, e3]
          · cases ha
        · cases ha
      · cases h0
    · cases h0
  · cases hp

theorem iaddr_ok (h : Inv C S W g tm) {es : Nat} {x i : Opd} (hp : iaddrB (sliceB P · es) x i o.op = true) (ha : act F d S.e S.r S.b (.iaddr es x i) = some out) : Pure P S W g tm o out := by
  obtain ⟨dst, oop, ty, pos, after, guard⟩ := o
  unfold iaddrB at hp
  split at hp
  · rename_i t x' i' e; simp only at e; subst e
    simp only [Bool.and_eq_true] at hp
    obtain ⟨⟨h0, h1⟩, h2⟩ := hp
    have hx := opd_ok h h1
    have hi := opd_ok h h2
    unfold sliceB at h0
    split at h0
    · rename_i el hu
      simp only [act] at ha
      split at ha
      · rename_i L off len kd k hv hw
        rw [hv] at hx
        rw [hw] at hi
        split at ha
        · rename_i hb
          obtain ⟨n, hn, ha⟩ := Option.bind_eq_some_iff.1 ha
          split at ha
          · rename_i hes
            obtain rfl := Option.some.inj ha
            obtain ⟨a, c, e1, e2⟩ := hx
            obtain ⟨e3, e4, e5⟩ := e2 n hn
            obtain ⟨q, oo, e6, rfl⟩ := e5 (by omega)
            refine ⟨.pointer (some ⟨q, oo + (off + k.toNat) * n.es + 0, none⟩), run_value ?_, ⟨_, rfl, fun n' hn' => ?_⟩, rfl, rfl, rfl, rfl⟩
            · simp only [Instr.indexAt, hi.1, e1, asIntOf, Sem.run_bind, Sem.run_pure, Result.andThen_ok, und_run hu]
              rw [if_pos ⟨hb.1, hb.2⟩]
              simp only [Sem.run_bind, sizeB_run h0, Result.andThen_ok, Sem.run_pure, add_lit]
              rw [hes]
              simp only [Nat.add_mul, Nat.add_zero, Nat.add_assoc]
            · rw [show nR S.r L.g = some n from hn] at hn'
              obtain rfl := Option.some.inj hn'
              exact ⟨q, oo, e6, rfl⟩
          · cases ha
        · cases ha
      · cases ha
    · cases h0
  · cases hp

theorem extr_ok (h : Inv C S W g tm) {x : Opd} {i : Nat} (hp : extrB x i o.op = true) (ha : act F d S.e S.r S.b (.extract x i) = some out) : Pure P S W g tm o out := by
  obtain ⟨dst, oop, ty, pos, after, guard⟩ := o
  unfold extrB at hp
  split at hp
  · rename_i x' i' e; simp only at e; subst e
    simp only [Bool.and_eq_true, beq_iff_eq] at hp
    obtain ⟨rfl, h1⟩ := hp
    have hx := opd_ok h h1
    simp only [act] at ha
    split at ha
    · rename_i l hv
      rw [hv] at hx
      obtain ⟨xs, e1, e2⟩ := hx
      obtain ⟨v, hv', rfl⟩ := Option.map_eq_some_iff.1 ha
      obtain ⟨y, e3, e4⟩ := e2.get _ _ hv'
      exact ⟨y, run_value (by simp [Instr.extract, e1, e3]), e4, rfl, rfl, rfl, rfl⟩
    · cases ha
  · cases hp

/-- A call of a builtin function of one argument. -/
theorem call1 {bt : Builtin} {tb : Nat → Bool} {x : Opd} {op : Op} (hp : callB bt (args1 tb x) op = true) : ∃ x' t, op = .call ⟨.builtin bt, #[x'], #[t]⟩ ∧ tb t = true ∧ opdB x' x = true := by
  unfold callB at hp
  split at hp
  · rename_i c
    obtain ⟨cal, args, ats⟩ := c
    simp only [Bool.and_eq_true] at hp
    obtain ⟨h0, h1⟩ := hp
    split at h0
    · rename_i bt'
      obtain rfl := of_decide_eq_true h0
      unfold args1 at h1
      split at h1
      · rename_i x' t h3 h4
        have h3' : args = #[x'] := Array.toList_inj.1 h3
        have h4' : ats = #[t] := Array.toList_inj.1 h4
        subst h3' h4'
        simp only [Bool.and_eq_true] at h1
        exact ⟨x', t, rfl, h1.1, h1.2⟩
      · cases h1
    · cases h0
  · cases hp

theorem call2 {bt : Builtin} {tb : Nat → Nat → Bool} {x y : Opd} {op : Op} (hp : callB bt (args2 tb x y) op = true) : ∃ x' y' t u, op = .call ⟨.builtin bt, #[x', y'], #[t, u]⟩ ∧ tb t u = true ∧ opdB x' x = true ∧ opdB y' y = true := by
  unfold callB at hp
  split at hp
  · rename_i c
    obtain ⟨cal, args, ats⟩ := c
    simp only [Bool.and_eq_true] at hp
    obtain ⟨h0, h1⟩ := hp
    split at h0
    · rename_i bt'
      obtain rfl := of_decide_eq_true h0
      unfold args2 at h1
      split at h1
      · rename_i x' y' t u h3 h4
        have h3' : args = #[x', y'] := Array.toList_inj.1 h3
        have h4' : ats = #[t, u] := Array.toList_inj.1 h4
        subst h3' h4'
        simp only [Bool.and_eq_true] at h1
        exact ⟨x', y', t, u, rfl, h1.1.1, h1.1.2, h1.2⟩
      · cases h1
    · cases h0
  · cases hp

theorem sliceT_ok {t : Nat} (h : sliceT P t = true) : ∃ e, P.underlying t = some (.slice e) := by
  unfold sliceT at h
  split at h
  · rename_i e he; exact ⟨e, he⟩
  · cases h

theorem len_ok (h : Inv C S W g tm) {x : Opd} (hp : callB .len (args1 (sliceT P) x) o.op = true) (ha : act F d S.e S.r S.b (.len x) = some out) : Pure P S W g tm o out := by
  obtain ⟨dst, oop, ty, pos, after, guard⟩ := o
  obtain ⟨x', t, e1, h5, h6⟩ := call1 hp
  simp only at e1
  subst e1
  obtain ⟨e, hu⟩ := sliceT_ok h5
  have hx := opd_ok h h6
  have hrun : ∀ a (n : Nat) c, evalT tm x' = .slice a n c → (execOp (evalT tm) ⟨dst, .call ⟨.builtin .len, #[x'], #[t]⟩, ty, pos, after, guard⟩).run P W = .ok (.value (.int .i64 n)) W := by
    intro a n c hv
    simp [execOp, resolve, invoke, builtin, Builtin.len_, und_run hu, hv, goInt]
  simp only [act] at ha
  split at ha
  · rename_i hv
    rw [hv] at hx
    obtain rfl := Option.some.inj ha
    exact ⟨_, hrun _ _ _ hx, ⟨rfl, rfl⟩, rfl, rfl, rfl, rfl⟩
  · rename_i L off n hv
    rw [hv] at hx
    obtain ⟨a, c, e2, _⟩ := hx
    obtain rfl := Option.some.inj ha
    exact ⟨_, hrun _ _ _ e2, ⟨rfl, rfl⟩, rfl, rfl, rfl, rfl⟩
  · cases ha

theorem slen_ok (h : Inv C S W g tm) {x : Opd} (hp : callB .len (args1 (strT P) x) o.op = true) (ha : act F d S.e S.r S.b (.slen x) = some out) : Pure P S W g tm o out := by
  obtain ⟨dst, oop, ty, pos, after, guard⟩ := o
  obtain ⟨x', t, e1, h5, h6⟩ := call1 hp
  simp only at e1
  subst e1
  have hu := strT_ok h5
  have hx := opd_ok h h6
  simp only [act] at ha
  split at ha
  · rename_i s hv
    rw [hv] at hx
    obtain rfl := Option.some.inj ha
    exact ⟨_, by simp [execOp, resolve, invoke, builtin, Builtin.len_, und_run hu, hx.1, goInt], ⟨rfl, rfl⟩, rfl, rfl, rfl, rfl⟩
  · cases ha

theorem sliceB_ok {t es : Nat} (h : sliceB P t es = true) : ∃ e, P.underlying t = some (.slice e) ∧ sizeB P e es = true := by
  unfold sliceB at h
  split at h
  · rename_i e he; exact ⟨e, he, h⟩
  · cases h

theorem slice_ok (h : Inv C S W g tm) {es : Nat} {x : Opd} {lo hi : Option Opd} (hp : slice2B (sliceB P · es) x lo hi o.op = true) (ha : act F d S.e S.r S.b (.slice es x lo hi) = some out) : Pure P S W g tm o out := by
  obtain ⟨dst, oop, ty, pos, after, guard⟩ := o
  unfold slice2B at hp
  split at hp
  · rename_i t x' lo' hi' mx e; simp only at e; subst e
    simp only [Bool.and_eq_true, Option.isNone_iff_eq_none] at hp
    obtain ⟨⟨⟨⟨rfl, h0⟩, h1⟩, h2⟩, h3⟩ := hp
    obtain ⟨el, hu, hsz⟩ := sliceB_ok h0
    have hx := opd_ok h h1
    have hrun : ∀ (a : Option Addr) (len c : Nat) (q : Nat × Nat), evalT tm x' = .slice a len c → (Instr.sliceBounds true len c (lo'.map (evalT tm)) (hi'.map (evalT tm)) none).run P W = .ok (q.1, q.2, c) W →
        (execOp (evalT tm) ⟨dst, .slice t x' lo' hi' none, ty, pos, after, guard⟩).run P W = .ok (.value (.slice (if c = q.1 then a else a.map (·.add (q.1 * es))) (q.2 - q.1) (c - q.1))) W := by
      intro a len c q e1 e2
      refine run_value ?_
      simp only [Instr.sliceAt, Sem.run_bind, und_run hu, Result.andThen_ok, Instr.slice, e1, Option.map_none, e2, sizeB_run hsz, Sem.run_pure]
    simp only [act] at ha
    split at ha
    · rename_i L off len hv
      rw [hv] at hx
      obtain ⟨q, hq, ha⟩ := Option.bind_eq_some_iff.1 ha
      obtain ⟨n, hn, ha⟩ := Option.bind_eq_some_iff.1 ha
      split at ha
      · rename_i hes
        obtain rfl := Option.some.inj ha
        obtain ⟨a, c, e1, e2⟩ := hx
        obtain ⟨e3, e4, e5⟩ := e2 n hn
        obtain ⟨b1, b2, b3⟩ := bounds_run (P := P) h h2 h3 e3 true hq
        refine ⟨_, hrun a len c q e1 b1, ⟨_, _, rfl, fun n' hn' => ?_⟩, rfl, rfl, rfl, rfl⟩
        rw [show nR S.r L.g = some n from hn] at hn'
        obtain rfl := Option.some.inj hn'
        refine ⟨by omega, by omega, fun hc => ?_⟩
        obtain ⟨qq, oo, e6, rfl⟩ := e5 (by omega)
        refine ⟨qq, oo, e6, ?_⟩
        rw [if_neg (by omega), Option.map_some, add_lit, hes, Nat.add_mul, Nat.add_assoc]
      · cases ha
    · rename_i hv
      rw [hv] at hx
      obtain ⟨q, hq, rfl⟩ := Option.map_eq_some_iff.1 ha
      obtain ⟨b1, b2, b3⟩ := bounds_run (P := P) h h2 h3 (Nat.le_refl 0) true hq
      refine ⟨_, hrun none 0 0 q hx b1, ?_, rfl, rfl, rfl, rfl⟩
      simp only [VOk]
      rw [show q.1 = 0 by omega, show q.2 = 0 by omega]
      simp
    · cases ha
  · cases hp

theorem sslice_ok (h : Inv C S W g tm) {x : Opd} {lo hi : Option Opd} (hp : slice2B (strT P) x lo hi o.op = true) (ha : act F d S.e S.r S.b (.sslice x lo hi) = some out) : Pure P S W g tm o out := by
  obtain ⟨dst, oop, ty, pos, after, guard⟩ := o
  unfold slice2B at hp
  split at hp
  · rename_i t x' lo' hi' mx e; simp only at e; subst e
    simp only [Bool.and_eq_true, Option.isNone_iff_eq_none] at hp
    obtain ⟨⟨⟨⟨rfl, h0⟩, h1⟩, h2⟩, h3⟩ := hp
    have hu := strT_ok h0
    have hx := opd_ok h h1
    simp only [act] at ha
    split at ha
    · rename_i s hv
      rw [hv] at hx
      obtain ⟨q, hq, rfl⟩ := Option.map_eq_some_iff.1 ha
      obtain ⟨b1, b2, b3⟩ := bounds_run (P := P) h h2 h3 (Nat.le_refl s.size) false hq
      refine ⟨.string (s.extract q.1 q.2), run_value ?_, ⟨rfl, rfl⟩, rfl, rfl, rfl, rfl⟩
      simp only [Instr.sliceAt, Sem.run_bind, und_run hu, Result.andThen_ok, Instr.slice, hx.1, Option.map_none, b1, Sem.run_pure, Option.isSome_none, Bool.false_eq_true, if_false]
    · cases ha
  · cases hp

theorem sindex_ok (h : Inv C S W g tm) {x i : Opd} (hp : indexB (strT P) x i o.op = true) (ha : act F d S.e S.r S.b (.sindex x i) = some out) : Pure P S W g tm o out := by
  obtain ⟨dst, oop, ty, pos, after, guard⟩ := o
  unfold indexB at hp
  split at hp
  · rename_i t x' i' e; simp only at e; subst e
    simp only [Bool.and_eq_true] at hp
    obtain ⟨⟨h0, h1⟩, h2⟩ := hp
    have hu := strT_ok h0
    have hx := opd_ok h h1
    have hi := opd_ok h h2
    simp only [act] at ha
    split at ha
    · rename_i s kd k hv hw
      rw [hv] at hx
      rw [hw] at hi
      split at ha
      · rename_i hk
        obtain ⟨c, hc, rfl⟩ := Option.map_eq_some_iff.1 ha
        have hs : s[k.toNat]? = some c := by
          rw [show s[k.toNat]? = s.data[k.toNat]? from by
            by_cases hb : k.toNat < s.size
            · rw [getElem?_pos s k.toNat hb]
              have : k.toNat < s.data.size := hb
              rw [getElem?_pos s.data k.toNat this]
              rfl
            · rw [getElem?_neg s k.toNat hb]
              have : ¬ k.toNat < s.data.size := hb
              rw [getElem?_neg s.data k.toNat this]]
          simpa using hc
        refine ⟨.int .u8 c.toNat, run_value ?_, ⟨rfl, rfl⟩, rfl, rfl, rfl, rfl⟩
        simp only [Instr.index, hi.1, hx.1, asIntOf, Sem.run_bind, Sem.run_pure, Result.andThen_ok, und_run hu, hk, if_true, hs]
      · cases ha
    · cases ha
  · cases hp

theorem arrB_ok {t len es : Nat} (h : arrB P t len es = true) : ∃ e, P.underlying t = some (.array len e) ∧ sizeB P e es = true := by
  unfold arrB at h
  split at h
  · rename_i n e he
    simp only [Bool.and_eq_true, beq_iff_eq] at h
    obtain ⟨rfl, h⟩ := h
    exact ⟨e, he, h⟩
  · cases h

theorem index_ok (h : Inv C S W g tm) {es len : Nat} {agg : Bool} {x i : Opd} (hp : indexB (fun t => arrB P t len es && arrA P t agg) x i o.op = true) (ha : act F d S.e S.r S.b (.index es len agg x i) = some out) : Pure P S W g tm o out := by
  obtain ⟨dst, oop, ty, pos, after, guard⟩ := o
  unfold indexB at hp
  split at hp
  · rename_i t x' i' e; simp only at e; subst e
    simp only [Bool.and_eq_true] at hp
    obtain ⟨⟨⟨h0, h4⟩, h1⟩, h2⟩ := hp
    obtain ⟨el, hu, hsz⟩ := arrB_ok h0
    have hag : aggB P el agg = true := by
      unfold arrA at h4
      rw [hu] at h4
      exact h4
    have hx := opd_ok h h1
    have hi := opd_ok h h2
    simp only [act] at ha
    split at ha
    · rename_i l kd k hv hw
      rw [hv] at hx
      rw [hw] at hi
      obtain ⟨xs, e1, e2⟩ := hx
      split at ha
      · rename_i hk
        obtain ⟨k1, k2, k3⟩ := hk
        obtain ⟨v, hv', rfl⟩ := Option.map_eq_some_iff.1 ha
        obtain ⟨y, e3, e4⟩ := part_run (P := P) (W := W) hag hsz e2 k3 hv'
        refine ⟨y, run_value ?_, e4, rfl, rfl, rfl, rfl⟩
        simp only [Instr.index, hi.1, e1, asIntOf, Sem.run_bind, Sem.run_pure, Result.andThen_ok, und_run hu]
        rw [if_pos ⟨k1, k2⟩]
        simp only [Sem.run_bind, sizeB_run hsz, Result.andThen_ok, e3]
      · cases ha
    · cases ha
  · cases hp

theorem aaddr_ok (h : Inv C S W g tm) {es len : Nat} {x i : Opd} (hp : iaddrB (arrB P · len es) x i o.op = true) (ha : act F d S.e S.r S.b (.aaddr es len x i) = some out) : Pure P S W g tm o out := by
  obtain ⟨dst, oop, ty, pos, after, guard⟩ := o
  unfold iaddrB at hp
  split at hp
  · rename_i t x' i' e; simp only at e; subst e
    simp only [Bool.and_eq_true] at hp
    obtain ⟨⟨h0, h1⟩, h2⟩ := hp
    obtain ⟨el, hu, hsz⟩ := arrB_ok h0
    have hx := opd_ok h h1
    have hi := opd_ok h h2
    have hrun : ∀ (a : Addr) (kd : IntKind) (k : Int), evalT tm x' = .pointer (some a) → evalT tm i' = .int kd k → 0 ≤ k → k < len →
        (execOp (evalT tm) ⟨dst, .indexAddr t x' i', ty, pos, after, guard⟩).run P W = .ok (.value (.pointer (some (a.add (k.toNat * es))))) W := by
      intro a kd k e1 e2 k1 k2
      refine run_value ?_
      simp only [Instr.indexAt, e1, e2, asIntOf, Sem.run_bind, Sem.run_pure, Result.andThen_ok, und_run hu, Instr.sureAddr]
      rw [if_pos ⟨k1, k2⟩]
      simp only [Sem.run_bind, sizeB_run hsz, Result.andThen_ok, Sem.run_pure]
    simp only [act] at ha
    split at ha
    · rename_i L j c kd k hv hw
      rw [hv] at hx
      rw [hw] at hi
      obtain ⟨a, e1, e2⟩ := hx
      split at ha
      · rename_i hk
        obtain rfl := Option.some.inj ha
        refine ⟨_, hrun a kd k e1 hi.1 hk.1 hk.2, ⟨_, rfl, fun n hn => ?_⟩, rfl, rfl, rfl, rfl⟩
        obtain ⟨q, oo, e3, rfl⟩ := e2 n hn
        exact ⟨q, oo, e3, by rw [add_lit]; simp [Nat.add_assoc]⟩
      · cases ha
    · rename_i j c kd k hv hw
      rw [hv] at hx
      rw [hw] at hi
      obtain ⟨a, e1, e2⟩ := hx
      split at ha
      · rename_i hk
        obtain rfl := Option.some.inj ha
        refine ⟨_, hrun a kd k e1 hi.1 hk.1 hk.2, ⟨_, rfl, fun n hn => ?_⟩, rfl, rfl, rfl, rfl⟩
        rw [e2 n hn, add_lit]
        simp [Nat.add_assoc]
      · cases ha
    · cases ha
  · cases hp

end
end Go.Proofs.Ytekfjbejfondnaa.Tom
/-! Operations: aggregates built; new variables. -/
namespace Go.Proofs.Ytekfjbejfondnaa.Tom
open Go

theorem cells_ok {g : Gh} {fo : NSet} {b : List (Nat × Nat)} {v : V} {x : Value} (h : VOk g fo b v x) (hk : v.known = true) : VsOk g fo b v.cells x.cells.toList := by
  cases v with
  | agg l => obtain ⟨xs, rfl, hx⟩ := h; simpa [V.cells, Value.cells] using hx
  | un => cases hk
  | val u =>
    have e : x.cells = #[x] := by
      have h1 := h.1
      have h2 := h.2
      subst h1
      cases x <;> first | rfl | cases h2
    rw [e]
    exact ⟨x, [], rfl, h, rfl⟩
  | nil => simp only [VOk] at h; subst h; exact ⟨_, [], rfl, rfl, rfl⟩
  | sl L o n => obtain ⟨a, c, rfl, hx⟩ := h; exact ⟨_, [], rfl, ⟨a, c, rfl, hx⟩, rfl⟩
  | pt L i c => obtain ⟨a, rfl, hx⟩ := h; exact ⟨_, [], rfl, ⟨a, rfl, hx⟩, rfl⟩
  | bx d c => obtain ⟨a, rfl, hx⟩ := h; exact ⟨_, [], rfl, ⟨a, rfl, hx⟩, rfl⟩
  | tup l => obtain ⟨xs, rfl, hx⟩ := h; exact ⟨_, [], rfl, ⟨xs, rfl, hx⟩, rfl⟩
  | fn f l => obtain ⟨xs, rfl, hx⟩ := h; exact ⟨_, [], rfl, ⟨xs, rfl, hx⟩, rfl⟩

/-- Cells set one by one, from place off + k on. -/
theorem setAll (off : Nat) : ∀ (l : List Value) (k : Nat) (cs : Array Value), off + k + l.length ≤ cs.size →
    ((l.zipIdx k).foldl (fun (cs : Array Value) (x : Value × Nat) => cs.setIfInBounds (off + x.2) x.1) cs).toList = cs.toList.take (off + k) ++ l ++ cs.toList.drop (off + k + l.length)
  | [], k, cs, _ => by simp
  | x :: l, k, cs, h => by
    simp only [List.zipIdx_cons, List.foldl_cons]
    have hk : off + k < cs.size := by simp at h; omega
    have := setAll off l (k + 1) (cs.setIfInBounds (off + k) x) (by simp at h ⊢; omega)
    rw [this]
    simp only [Array.toList_setIfInBounds]
    have e1 : off + (k + 1) = off + k + 1 := by omega
    rw [e1]
    have h1 : (cs.toList.set (off + k) x).take (off + k + 1) = cs.toList.take (off + k) ++ [x] := by
      rw [List.take_add_one, List.take_set_of_le (Nat.le_refl _), List.getElem?_set_self (by simpa using hk)]
      rfl
    have h2 : (cs.toList.set (off + k) x).drop (off + k + 1 + l.length) = cs.toList.drop (off + k + (l.length + 1)) := by
      rw [List.drop_set_of_lt (by omega), show off + k + 1 + l.length = off + k + (l.length + 1) by omega]
    rw [h1, h2]
    simp

theorem VsOk.append {g : Gh} {fo : NSet} {b : List (Nat × Nat)} {l m : List V} {xs ys : List Value} (h1 : VsOk g fo b l xs) (h2 : VsOk g fo b m ys) : VsOk g fo b (l ++ m) (xs ++ ys) := by
  induction l generalizing xs with
  | nil => simp only [VsOk] at h1; subst h1; simpa using h2
  | cons v l ih => obtain ⟨x, zs, rfl, e1, e2⟩ := h1; exact ⟨x, zs ++ ys, rfl, e1, ih e2⟩

theorem VsOk.take {g : Gh} {fo : NSet} {b : List (Nat × Nat)} {l : List V} {xs : List Value} (h : VsOk g fo b l xs) (n : Nat) : VsOk g fo b (l.take n) (xs.take n) := by
  refine VsOk.mk (by simp [h.length]) fun k v x h1 h2 => ?_
  rw [List.getElem?_take] at h1 h2
  split at h1
  · rename_i hk
    rw [if_pos hk] at h2
    obtain ⟨y, e1, e2⟩ := h.get _ _ h1
    rw [h2] at e1
    exact Option.some.inj e1 ▸ e2
  · cases h1

theorem VsOk.drop {g : Gh} {fo : NSet} {b : List (Nat × Nat)} {l : List V} {xs : List Value} (h : VsOk g fo b l xs) (n : Nat) : VsOk g fo b (l.drop n) (xs.drop n) := by
  refine VsOk.mk (by simp [h.length]) fun k v x h1 h2 => ?_
  rw [List.getElem?_drop] at h1 h2
  obtain ⟨y, e1, e2⟩ := h.get _ _ h1
  rw [h2] at e1
  exact Option.some.inj e1 ▸ e2

/-- One part filled in. -/
theorem fill1 {g : Gh} {fo : NSet} {b : List (Nat × Nat)} {z z' l : List V} {cells : Array Value} {v : Value} {off : Nat} (hz : VsOk g fo b z cells.toList) (hv : VsOk g fo b l v.cells.toList) (hp : putVs z off l = some z') :
    off + v.cells.size ≤ cells.size ∧ VsOk g fo b z' (v.cells.zipIdx.foldl (fun (cs : Array Value) (x : Value × Nat) => cs.setIfInBounds (off + x.2) x.1) cells).toList := by
  unfold putVs at hp
  split at hp
  · rename_i hl
    obtain rfl := Option.some.inj hp
    have h1 := hz.length
    have h2 := hv.length
    simp only [Array.length_toList] at h1 h2
    have h3 : off + v.cells.size ≤ cells.size := by omega
    refine ⟨h3, ?_⟩
    have := setAll off v.cells.toList 0 cells (by simpa using h3)
    rw [show (v.cells.zipIdx.foldl (fun (cs : Array Value) (x : Value × Nat) => cs.setIfInBounds (off + x.2) x.1) cells) = (v.cells.toList.zipIdx 0).foldl (fun (cs : Array Value) (x : Value × Nat) => cs.setIfInBounds (off + x.2) x.1) cells from by
      rw [← Array.foldl_toList, Array.toList_zipIdx], this]
    have e : l.length = v.cells.toList.length := h2 ▸ rfl
    rw [e]
    exact ((hz.take _).append hv).append (hz.drop _)
  · cases hp

/-- The parts of a build: the model's and the machine's. -/
def partsB (pl : Nat → Option (Nat × Nat)) : List (Nat × Operand) → List (Nat × Nat × Opd) → Bool
  | [], [] => true
  | (i, x) :: ps, (off, n, y) :: qs => decide (pl i = some (off, n)) && opdB x y && partsB pl ps qs
  | _, _ => false

section
variable {P : Program} {F : Fun} {C : Ctx} {S : St} {W : World} {g : Gh} {tm : Nat → Value} {o : Oper} {d : Nat} {out : Out}

theorem fill_ok (h : Inv C S W g tm) (pl : Nat → Option (Nat × Nat)) : ∀ (ps : List (Nat × Operand)) (qs : List (Nat × Nat × Opd)) (z z' : List V) (cells : Array Value), partsB pl ps qs = true → VsOk g (nR S.r) S.b z cells.toList →
    fillV S.e z qs = some z' → ∃ cells', Instr.fill pl cells (ps.map fun p => (p.1, evalT tm p.2)) = some cells' ∧ VsOk g (nR S.r) S.b z' cells'.toList
  | [], [], z, z', cells, _, hz, hf => by
    obtain rfl := Option.some.inj hf
    exact ⟨cells, rfl, hz⟩
  | (i, x) :: ps, (off, n, y) :: qs, z, z', cells, hp, hz, hf => by
    simp only [partsB, Bool.and_eq_true, decide_eq_true_eq] at hp
    obtain ⟨⟨h1, h2⟩, h3⟩ := hp
    simp only [fillV] at hf
    split at hf
    · rename_i hn
      obtain ⟨hn1, hn2⟩ := hn
      obtain ⟨z1, h4, h5⟩ := Option.bind_eq_some_iff.1 hf
      have hv := cells_ok (opd_ok h h2) hn2
      have hlen := hv.length
      simp only [Array.length_toList] at hlen
      obtain ⟨e1, e2⟩ := fill1 hz hv h4
      obtain ⟨cells', e3, e4⟩ := fill_ok h pl ps qs z1 z' _ h3 e2 h5
      refine ⟨cells', ?_, e4⟩
      simp only [List.map_cons, Instr.fill, h1]
      rw [if_neg]
      · exact e3
      · simp only [Bool.or_eq_true, decide_eq_true_eq, not_or]
        exact ⟨by omega, by omega⟩
    · cases hf
  | [], _ :: _, _, _, _, hp, _, _ => by cases hp
  | _ :: _, [], _, _, _, hp, _, _ => by cases hp

def zeroB (P : Program) (t : Nat) (z : List V) : Bool := match P.info? t with
  | some i => match i.zero with | some v => constL v.cells.toList z | none => false
  | none => false

theorem zeroB_ok {t : Nat} {z : List V} (h : zeroB P t z = true) : ∃ i v, P.info? t = some i ∧ i.zero = some v ∧ constL v.cells.toList z = true := by
  unfold zeroB at h
  split at h
  · rename_i i hi
    split at h
    · rename_i v hv; exact ⟨i, v, hi, hv, h⟩
    · cases h
  · cases h

def buildB (P : Program) (z : List V) (qs : List (Nat × Nat × Opd)) : Op → Bool
  | .build t ps => zeroB P t z && match P.underlying t with
    | some (.struct fs) => match fs.toList.mapM (fun f => (P.info? f.type).map fun i => (f.offset, i.size)) with
      | some places => partsB (places.toArray[·]?) ps.toList qs
      | none => false
    | some (.array _ e) => match P.info? e with
      | some ie => partsB (fun i => some (i * ie.size, ie.size)) ps.toList qs
      | none => false
    | _ => false
  | _ => false

theorem build_ok (h : Inv C S W g tm) {z : List V} {qs : List (Nat × Nat × Opd)} (hp : buildB P z qs o.op = true) (ha : act F d S.e S.r S.b (.build z qs) = some out) : Pure P S W g tm o out := by
  obtain ⟨dst, oop, ty, pos, after, guard⟩ := o
  unfold buildB at hp
  split at hp
  · rename_i t ps e; simp only at e; subst e
    simp only [Bool.and_eq_true] at hp
    obtain ⟨h0, h1⟩ := hp
    obtain ⟨it, zv, hi, hz, hc⟩ := zeroB_ok h0
    obtain ⟨l, hl, rfl⟩ := Option.map_eq_some_iff.1 ha
    have key : ∀ pl, partsB pl ps.toList qs = true → (∀ cells', Instr.fill pl zv.cells (ps.toList.map fun p => (p.1, evalT tm p.2)) = some cells' → P.built t (ps.toList.map fun p => (p.1, evalT tm p.2)) = some cells') → Pure P S W g tm ⟨dst, .build t ps, ty, pos, after, guard⟩ ⟨.agg l, [], S.r, S.b, []⟩ := by
      intro pl hpl hb
      obtain ⟨cells', e1, e2⟩ := fill_ok h pl ps.toList qs z l zv.cells hpl (constL_ok hc) hl
      refine ⟨.agg cells', run_value (run_build W t _ cells' ?_), ⟨cells'.toList, by simp, e2⟩, rfl, rfl, rfl, rfl⟩
      have := hb cells' e1
      rw [← this]
      congr 1
      simp
    split at h1
    · rename_i fs hu
      split at h1
      · rename_i places hpl
        refine key _ h1 fun cells' hc' => ?_
        simp only [Program.built, hi, hu, hz, hpl]
        exact hc'
      · cases h1
    · rename_i n e hu
      split at h1
      · rename_i ie hie
        refine key _ h1 fun cells' hc' => ?_
        simp only [Program.built, hi, hu, hz, hie]
        exact hc'
      · cases h1
    · cases h1
  · cases hp

theorem mnx_ok (h : Inv C S W g tm) {mx : Bool} {x y : Opd} (hp : callB (if mx then .max else .min) (args2 (fun _ _ => true) x y) o.op = true) (ha : act F d S.e S.r S.b (.mnx mx x y) = some out) : Pure P S W g tm o out := by
  obtain ⟨dst, oop, ty, pos, after, guard⟩ := o
  obtain ⟨x', y', t, u, e1, _, h5, h6⟩ := call2 hp
  simp only at e1
  subst e1
  have hx := opd_ok h h5
  have hy := opd_ok h h6
  simp only [act] at ha
  split at ha
  · rename_i k a k' b hv hw
    rw [hv] at hx
    rw [hw] at hy
    split at ha
    · rename_i hk
      subst hk
      obtain rfl := Option.some.inj ha
      refine ⟨_, ?_, ⟨rfl, rfl⟩, rfl, rfl, rfl, rfl⟩
      cases mx
      · have e : (if b < a then b else a) = min a b := by split <;> omega
        simp [execOp, resolve, invoke, builtin, Builtin.min_, Builtin.min2, hx.1, hy.1, e]
      · have e : (if a < b then b else a) = max a b := by split <;> omega
        simp [execOp, resolve, invoke, builtin, Builtin.max_, Builtin.max2, hx.1, hy.1, e]
    · cases ha
  · cases ha

end
end Go.Proofs.Ytekfjbejfondnaa.Tom
/-! Operations on memory: new variables, loads, stores. -/
namespace Go.Proofs.Ytekfjbejfondnaa.Tom
open Go

theorem CellOk.hd {g g' : Gh} (e : g'.hd = g.hd) {L : GLoc} {t : T} {x : Value} (h : CellOk g L t x) : CellOk g' L t x :=
  h.same (sameHd_refl t) fun _ _ _ _ => by rw [e]

theorem NodeOk.hd {g g' : Gh} (e : g'.hd = g.hd) {W : World} {L : GLoc} {n : Node} (h : NodeOk g W L n) : NodeOk g' W L n := by
  refine ⟨by rw [e]; exact h.len, by rw [e]; exact h.mem, h.rows, fun i j t ht => ?_⟩
  obtain ⟨q, o, x, h1, h2, h3⟩ := h.cells i j t ht
  exact ⟨q, o, x, by rw [e]; exact h1, h2, h3.hd e⟩

def boxG (g : Gh) (d q : Nat) : Gh := ⟨g.hd, fun d' => if d' = d then (q, 0) else g.bx d'⟩

theorem getB_cons (b : List (Nat × Nat)) (d n d' : Nat) : getB ((d, n) :: b) d' = if d' = d then some n else getB b d' := by
  simp only [getB]
  by_cases h : d = d'
  · simp [h]
  · rw [if_neg h, if_neg (fun e => h e.symm)]

theorem alloc_cell (W : World) (cells : Array Value) (ty i : Nat) : (W.alloc (.cells cells ty)).cell? ⟨W.heap.size, i, none⟩ = cells[i]? := by
  unfold World.cell?
  rw [show (W.alloc (.cells cells ty)).heap[W.heap.size]? = some (.cells cells ty) from by
    show (W.heap.push _)[W.heap.size]? = _
    simp]
  rfl
theorem alloc_frozen (W : World) (cells : Array Value) (ty i : Nat) : (W.alloc (.cells cells ty)).frozen? ⟨W.heap.size, i, none⟩ = false := by
  unfold World.frozen?
  rw [show (W.alloc (.cells cells ty)).heap[W.heap.size]? = some (.cells cells ty) from by
    show (W.heap.push _)[W.heap.size]? = _
    simp]
  simp
theorem alloc_shape (W : World) (cells : Array Value) (ty : Nat) : (W.alloc (.cells cells ty)).shape? W.heap.size = some (ty, cells.size) := by
  unfold World.shape?
  rw [show (W.alloc (.cells cells ty)).heap[W.heap.size]? = some (.cells cells ty) from by
    show (W.heap.push _)[W.heap.size]? = _
    simp]

theorem FInv.newBox {C : Ctx} {fo : NSet} {b : List (Nat × Nat)} {W : World} {g : Gh} (h : FInv C fo b W g) {d : Nat} (hd : getB b d = none) (cells : Array Value) (ty : Nat) :
    FInv C fo ((d, cells.size) :: b) (W.alloc (.cells cells ty)) (boxG g d W.heap.size) := by
  have k := h.grows (Grows.alloc W (.cells cells ty))
  have hb : ∀ d' m, getB ((d, cells.size) :: b) d' = some m → (d' = d ∧ m = cells.size) ∨ (d' ≠ d ∧ getB b d' = some m) := by
    intro d' m hm
    rw [getB_cons] at hm
    split at hm
    · rename_i e; exact .inl ⟨e, (Option.some.inj hm).symm⟩
    · rename_i e; exact .inr ⟨e, hm⟩
  have bx1 : (boxG g d W.heap.size).bx d = (W.heap.size, 0) := by simp [boxG]
  have bx2 : ∀ d', d' ≠ d → (boxG g d W.heap.size).bx d' = g.bx d' := fun d' hd' => by simp [boxG, hd']
  refine ⟨fun L n hn => NodeOk.hd (g := g) (g' := boxG g d W.heap.size) rfl (k.node L n hn), fun d' m c hm hc => ?_, fun d' m hm => ?_, k.x1, fun L n d' m hn hm hq => ?_, fun d1 d2 m1 m2 h1 h2 hne => ?_, k.src, fun d' m hm => ?_, k.lent, k.stat, k.fr, k.n0, k.own⟩
  · rcases hb d' m hm with ⟨rfl, rfl⟩ | ⟨hne, hm'⟩
    · rw [bx1]
      simp only [Nat.zero_add]
      exact ⟨⟨cells[c], by rw [alloc_cell]; exact Array.getElem?_eq_getElem hc⟩, alloc_frozen _ _ _ _⟩
    · rw [bx2 d' hne]
      exact k.box d' m c hm' hc
  · rcases hb d' m hm with ⟨rfl, rfl⟩ | ⟨hne, hm'⟩
    · rw [bx1]; simp
    · rw [bx2 d' hne]
      exact k.boxlt d' m hm'
  · rcases hb d' m hm with ⟨rfl, rfl⟩ | ⟨hne, hm'⟩
    · rw [bx1] at hq
      have := (h.node L n hn).lt hq
      simp at this
    · rw [bx2 d' hne] at hq
      exact k.x2 L n d' m hn hm' hq
  · rcases hb d1 m1 h1 with ⟨rfl, rfl⟩ | ⟨hn1, hm1⟩ <;> rcases hb d2 m2 h2 with ⟨rfl, rfl⟩ | ⟨hn2, hm2⟩
    · exact (hne rfl).elim
    · rw [bx1, bx2 d2 hn2]
      have := h.boxlt d2 m2 hm2
      simp only; omega
    · rw [bx1, bx2 d1 hn1]
      have := h.boxlt d1 m1 hm1
      simp only; omega
    · rw [bx2 d1 hn1, bx2 d2 hn2]
      exact k.x3 d1 d2 m1 m2 hm1 hm2 hne
  · rcases hb d' m hm with ⟨rfl, rfl⟩ | ⟨hne, hm'⟩
    · rw [bx1]; exact .inl h.fr.size
    · rw [bx2 d' hne]
      exact k.srb d' m hm'

theorem lk_bar (p : List Loc) (e : Env) (t : Slot) : lk (bar p e) t = pois p (lk e t) := by
  cases p with
  | nil => rw [pois_nil]; rfl
  | cons x p => rfl

theorem lk_slots (d : Nat) : ∀ (vs : List V) (k : Nat) (e : Env) (t : Slot), lk (slots d k vs ++ e) t = if t.1 = d ∧ k + 1 ≤ t.2 ∧ t.2 < k + 1 + vs.length then vs.getD (t.2 - 1 - k) .un else lk e t
  | [], k, e, t => by simp only [slots, List.nil_append]; rw [if_neg (by simp only [List.length_nil]; omega)]
  | v :: vs, k, e, t => by
    obtain ⟨t1, t2⟩ := t
    simp only [slots, List.cons_append, lk, lk_slots d vs (k + 1) e]
    by_cases h : (d, k + 1) = (t1, t2)
    · rw [if_pos h]
      simp only [Prod.mk.injEq] at h
      obtain ⟨rfl, rfl⟩ := h
      rw [if_pos ⟨rfl, Nat.le_refl _, by simp⟩]
      simp
    · rw [if_neg h]
      simp only [Prod.mk.injEq, not_and] at h
      by_cases h2 : t1 = d ∧ k + 1 + 1 ≤ t2 ∧ t2 < k + 1 + 1 + vs.length
      · rw [if_pos h2, if_pos ⟨h2.1, by omega, by simp; omega⟩]
        rw [show t2 - 1 - k = (t2 - 1 - (k + 1)) + 1 by omega]
        rfl
      · rw [if_neg h2, if_neg]
        rintro ⟨rfl, h3, h4⟩
        simp only [List.length_cons] at h4
        by_cases h5 : t2 = k + 1
        · exact h rfl h5.symm
        · exact h2 ⟨rfl, by omega, by omega⟩

theorem hit_box (d d' : Nat) : hit [boxLoc d] (boxLoc d') = false → d' ≠ d := by
  intro h e
  subst e
  simp [hit, boxLoc, pfx] at h

section
variable {P : Program} {F : Fun} {C : Ctx} {S : St} {W : World} {g : Gh} {tm : Nat → Value} {o : Oper} {d : Nat} {out : Out}

/-- What an operation on memory gives. -/
def Step (P : Program) (C : Ctx) (S : St) (W : World) (tm : Nat → Value) (o : Oper) (out : Out) : Prop :=
  ∃ nx v W' g', (execOp (evalT tm) o).run P W = .ok nx W' ∧ (nx = .value v ∨ (nx = .skip ∧ v = undef)) ∧ VOk g' (nR out.r) out.b out.v v ∧ Inv C ⟨out.e ++ bar out.p S.e, out.r, out.b⟩ W' g' tm

theorem Pure.step (h : Inv C S W g tm) (hp : Pure P S W g tm o out) : Step P C S W tm o out := by
  obtain ⟨v, h1, h2, h3, h4, h5, h6⟩ := hp
  refine ⟨_, v, W, g, h1, .inl rfl, by rw [h4, h5]; exact h2, ?_⟩
  rw [h3, h4, h5, h6]
  exact h

/-- A new variable: its cells, the other slots poisoned for stale addresses of it. -/
theorem Inv.newBox (h : Inv C S W g tm) (hd : getB S.b d = none) {vs : List V} {xs : List Value} (hv : VsOk (boxG g d W.heap.size) (nR S.r) ((d, vs.length) :: S.b) vs xs) (ty : Nat) :
    Inv C ⟨slots d 0 vs ++ bar [boxLoc d] S.e, S.r, (d, vs.length) :: S.b⟩ (W.alloc (.cells xs.toArray ty)) (boxG g d W.heap.size) tm := by
  have hl := hv.length
  have hsz : xs.toArray.size = vs.length := by simpa using hl
  have hB : ∀ d' m', getB ((d, vs.length) :: S.b) d' = some m' → hit [boxLoc d] (boxLoc d') = false → ∃ m, getB S.b d' = some m ∧ (boxG g d W.heap.size).bx d' = g.bx d' := by
    intro d' m' hm hh
    have hne := hit_box d d' hh
    rw [getB_cons, if_neg hne] at hm
    exact ⟨m', hm, by simp [boxG, hne]⟩
  have mv : ∀ v x, VOk g (nR S.r) S.b v x → VOk (boxG g d W.heap.size) (nR S.r) ((d, vs.length) :: S.b) (pois [boxLoc d] v) x :=
    fun v x hx => VOk.move (g := g) (g' := boxG g d W.heap.size) (fo := nR S.r) (b := S.b) (b' := (d, vs.length) :: S.b) (p := [boxLoc d]) (fun L n' h1 _ => ⟨n', h1, rfl, rfl⟩) hB v x hx
  refine ⟨by have := h.f.newBox hd xs.toArray ty; rwa [hsz] at this, fun t => ?_, fun d' m c x hm hc hx => ?_⟩
  · rw [lk_slots, if_neg (by simp), lk_bar]
    exact mv _ _ (h.e t)
  · by_cases e : d' = d
    · subst e
      rw [getB_cons, if_pos rfl] at hm
      obtain rfl := Option.some.inj hm
      rw [lk_slots, if_pos ⟨rfl, by simp, by simp; omega⟩]
      have hbx : (boxG g d' W.heap.size).bx d' = (W.heap.size, 0) := by simp [boxG]
      rw [hbx] at hx
      simp only [Nat.zero_add] at hx
      rw [alloc_cell] at hx
      simp only [List.getElem?_toArray] at hx
      obtain ⟨v, hvk⟩ : ∃ v, vs[c]? = some v := ⟨_, List.getElem?_eq_getElem hc⟩
      obtain ⟨y, e1, e2⟩ := hv.get c v hvk
      rw [hx] at e1
      obtain rfl := Option.some.inj e1
      simp only [Nat.add_sub_cancel, Nat.sub_zero]
      rw [List.getD_eq_getElem?_getD, hvk]
      exact e2
    · rw [getB_cons, if_neg e] at hm
      rw [lk_slots, if_neg (fun hh => e hh.1), lk_bar]
      have hbx : (boxG g d W.heap.size).bx d' = g.bx d' := by simp [boxG, e]
      rw [hbx] at hx
      have hlt := h.f.boxlt d' m hm
      rw [cell_of_heap (heap_alloc_lt W _ hlt)] at hx
      exact mv _ _ (h.c d' m c x hm hc hx)

def allocB (P : Program) (z : List V) : Op → Bool
  | .alloc t => zeroB P t z
  | _ => false
def boxB (x' : Opd) : Op → Bool
  | .box _ x => opdB x x'
  | _ => false

theorem alloc_ok (h : Inv C S W g tm) {z : List V} (hp : allocB P z o.op = true) (ha : act F d S.e S.r S.b (.alloc z) = some out) : Step P C S W tm o out := by
  obtain ⟨dst, oop, ty, pos, after, guard⟩ := o
  unfold allocB at hp
  split at hp
  · rename_i t e; simp only at e; subst e
    obtain ⟨it, zv, hi, hz, hc⟩ := zeroB_ok hp
    obtain ⟨b', hb, rfl⟩ := Option.map_eq_some_iff.1 ha
    unfold newBox at hb
    split at hb
    · rename_i hn
      obtain rfl := Option.some.inj hb
      have hn' : getB S.b d = none := by simpa using hn
      refine ⟨.value (.pointer (some ⟨W.heap.size, 0, none⟩)), _, W.alloc (.cells zv.cells.toList.toArray t), boxG g d W.heap.size, ?_, .inl rfl, ?_, h.newBox hn' (constL_ok hc) t⟩
      · simp [execOp, Instr.alloc, zeroValue, typeInfo, hi, hz, newVar, newRow]
      · refine ⟨_, rfl, fun m hm => ?_⟩
        simp [boxG]
    · cases hb
  · cases hp

theorem box_ok (h : Inv C S W g tm) {n : Nat} {x : Opd} (hp : boxB x o.op = true) (ha : act F d S.e S.r S.b (.box n x) = some out) : Step P C S W tm o out := by
  obtain ⟨dst, oop, ty, pos, after, guard⟩ := o
  unfold boxB at hp
  split at hp
  · rename_i t x' e; simp only at e; subst e
    have hx := opd_ok h hp
    simp only [act] at ha
    split at ha
    · rename_i hk
      obtain ⟨hk1, hk2⟩ := hk
      obtain ⟨b', hb, rfl⟩ := Option.map_eq_some_iff.1 ha
      unfold newBox at hb
      split at hb
      · rename_i hn
        obtain rfl := Option.some.inj hb
        have hn' : getB S.b d = none := by simpa using hn
        have hc := cells_ok hx hk2
        have hpl : (poisL [boxLoc d] (x.ev S.e).cells).length = n := by rw [← hk1]; exact poisL_len _ _
        have hv : VsOk (boxG g d W.heap.size) (nR S.r) ((d, (poisL [boxLoc d] (x.ev S.e).cells).length) :: S.b) (poisL [boxLoc d] (x.ev S.e).cells) (evalT tm x').cells.toList := by
          refine VsOk.move (g := g) (g' := boxG g d W.heap.size) (fo := nR S.r) (b := S.b) (p := [boxLoc d]) (fun L n' h1 _ => ⟨n', h1, rfl, rfl⟩) (fun d' m' hm hh => ?_) _ _ hc
          have hne := hit_box d d' hh
          rw [getB_cons, if_neg hne] at hm
          exact ⟨m', hm, by simp [boxG, hne]⟩
        have := h.newBox hn' hv t
        rw [hpl] at this
        refine ⟨.value (.pointer (some ⟨W.heap.size, 0, none⟩)), _, W.alloc (.cells (evalT tm x').cells.toList.toArray t), boxG g d W.heap.size, ?_, .inl rfl, ?_, this⟩
        · simp [execOp, Instr.box, newVar, newRow]
        · refine ⟨_, rfl, fun m hm => ?_⟩
          simp [boxG]
      · cases hb
    · cases ha
  · cases hp
where
  poisL_len (p : List Loc) : ∀ l : List V, (poisL p l).length = l.length
  | [] => rfl
  | v :: l => by simp [poisL, poisL_len p l]

end
end Go.Proofs.Ytekfjbejfondnaa.Tom
/-! Operations on memory: loads and stores. -/
namespace Go.Proofs.Ytekfjbejfondnaa.Tom
open Go

theorem node_ext {r : Roots} {L : Loc} {m : Node} (hm : nodeAt r L = some m) {i j : Nat} {ro : Ro} {es : Nat} {el : List (List T)} (h : cellAt m.el i j = some (.arr ro es el)) :
    nodeAt r (L.ext i j) = some ⟨m.ro.under ro, es, el⟩ := by
  have := atF_append (foR r) 0 L.key L.path [(i, j)]
  rw [show atF (foR r) ⟨0, L.key, L.path⟩ = some m from hm] at this
  refine Eq.trans this ?_
  simp only [Option.bind_some, walk, h, T.node]

theorem cellV_ok {C : Ctx} {r : Roots} {b : List (Nat × Nat)} {W : World} {g : Gh} (h : FInv C (nR r) b W g) {L : Loc} {m : Node} (hm : nodeAt r L = some m) {i j : Nat} {t : T} (hc : cellAt m.el i j = some t) {x : Value} (ht : CellOk g (L.g.ext i j) t x) :
    VOk g (nR r) b (cellV L i j t) x := by
  cases t with
  | val u => exact ht
  | nil => exact ht
  | arr ro es el =>
    refine ⟨_, _, ht, fun n hn => ?_⟩
    have hn' := node_ext hm hc
    have e : n = ⟨m.ro.under ro, es, el⟩ := Option.some.inj ((show nodeAt r (L.ext i j) = some n from hn).symm.trans hn')
    have hk := h.node _ n hn
    refine ⟨by have := hk.len; rw [e] at this; exact this, Nat.zero_add _, fun hc => ?_⟩
    obtain ⟨q, o, _, _, ha, _⟩ := hk.mem hc
    exact ⟨q, o, ha, by rw [Nat.zero_mul, Nat.add_zero]; exact ha⟩
  | _ => trivial

/-- Cells of a row, read. -/
theorem cellsV_ok {C : Ctx} {r : Roots} {b : List (Nat × Nat)} {W : World} {g : Gh} (h : FInv C (nR r) b W g) {L : Loc} {m : Node} (hm : nodeAt r L = some m) {q o : Nat} (ha : (g.hd L.g).a = some ⟨q, o, none⟩) {i : Nat} :
    ∀ (ts : List T) (c : Nat), (∀ (j : Nat) (t : T), ts[j]? = some t → cellAt m.el i (c + j) = some t) →
      ∃ xs, VsOk g (nR r) b (cellsV L i c ts) xs ∧ ∀ (j : Nat) (v : Value), xs[j]? = some v → W.cell? ⟨q, o + i * m.es + c + j, none⟩ = some v
  | [], c, _ => ⟨[], rfl, by simp⟩
  | t :: ts, c, hts => by
    have h0 := hts 0 t rfl
    obtain ⟨q', o', x, h1, h2, h3⟩ := (h.node L.g m hm).cells i c t h0
    rw [ha] at h1
    obtain ⟨rfl, rfl⟩ : q = q' ∧ o = o' := by simpa using h1
    obtain ⟨xs, h4, h5⟩ := cellsV_ok h hm ha ts (c + 1) (fun j u hu => by
      have := hts (j + 1) u hu
      rwa [show c + (j + 1) = c + 1 + j by omega] at this)
    refine ⟨x :: xs, ⟨x, xs, rfl, cellV_ok h hm h0 h3, h4⟩, fun j v hv => ?_⟩
    cases j with
    | zero => obtain rfl := Option.some.inj hv; exact h2
    | succ j =>
      have := h5 j v hv
      rwa [show o + i * m.es + (c + 1) + j = o + i * m.es + c + (j + 1) by omega] at this

section
variable {P : Program} {F : Fun} {C : Ctx} {S : St} {W : World} {g : Gh} {tm : Nat → Value} {o : Oper} {d : Nat} {out : Out}

theorem boxCells_ok (h : Inv C S W g tm) {k m : Nat} (hk : getB S.b k = some m) : ∀ (n c : Nat), c + n ≤ m →
    ∃ xs, VsOk g (nR S.r) S.b (boxCells S.e k c n) xs ∧ ∀ (j : Nat) (v : Value), xs[j]? = some v → W.cell? ⟨(g.bx k).1, (g.bx k).2 + c + j, none⟩ = some v
  | 0, c, _ => ⟨[], rfl, by simp⟩
  | n + 1, c, hc => by
    obtain ⟨⟨x, hx⟩, _⟩ := h.f.box k m c hk (by omega)
    obtain ⟨xs, h1, h2⟩ := boxCells_ok h hk n (c + 1) (by omega)
    refine ⟨x :: xs, ⟨x, xs, rfl, h.c k m c x hk (by omega) hx, h1⟩, fun j v hv => ?_⟩
    cases j with
    | zero => obtain rfl := Option.some.inj hv; exact hx
    | succ j =>
      have := h2 j v hv
      rwa [show (g.bx k).2 + (c + 1) + j = (g.bx k).2 + c + (j + 1) by omega] at this

theorem boxCells_length (e : Env) (d : Nat) : ∀ (n c : Nat), (boxCells e d c n).length = n
  | 0, _ => rfl
  | n + 1, c => by simp [boxCells, boxCells_length e d n]

theorem cellsV_length (L : Loc) (i : Nat) : ∀ (ts : List T) (c : Nat), (cellsV L i c ts).length = ts.length
  | [], _ => rfl
  | t :: ts, c => by simp [cellsV, cellsV_length L i ts]

/-- A variable read. -/
theorem loadVar_run {t n : Nat} {agg : Bool} (hs : sizeB P t n = true) (hg : aggB P t agg = true) {fo : NSet} {b : List (Nat × Nat)} {l : List V} {xs : List Value} (hl : l.length = n) (hv : VsOk g fo b l xs) {v : V} (ho : one agg l = some v)
    {q p : Nat} (hc : ∀ (j : Nat) (v : Value), xs[j]? = some v → W.cell? ⟨q, p + j, none⟩ = some v) : ∃ x, (loadVar t ⟨q, p, none⟩).run P W = .ok x W ∧ VOk g fo b v x := by
  have hlen := hv.length
  unfold one at ho
  split at ho
  · obtain rfl := Option.some.inj ho
    refine ⟨.agg xs.toArray, ?_, xs, rfl, hv⟩
    have := run_loadCells_list (P := P) W ⟨q, p, none⟩ xs (fun j u hu => by rw [add_lit]; exact hc j u hu)
    rw [hlen, hl] at this
    simp only [loadVar, Sem.run_bind, aggB_run hg, Result.andThen_ok, if_true, sizeB_run hs, this, Sem.run_pure]
  · obtain rfl := Option.some.inj ho
    obtain ⟨x, ys, rfl, h1, h2⟩ := hv
    refine ⟨x, ?_, h1⟩
    have := hc 0 x rfl
    simp only [loadVar, Sem.run_bind, aggB_run hg, Result.andThen_ok, Bool.false_eq_true, if_false]
    exact load_run this
  · cases ho

def loadB (P : Program) (n : Nat) (agg : Bool) (a' : Opd) : Op → Bool
  | .load t a => sizeB P t n && aggB P t agg && opdB a a'
  | _ => false

theorem load_ok (h : Inv C S W g tm) {n : Nat} {agg : Bool} {a : Opd} (hp : loadB P n agg a o.op = true) (ha : act F d S.e S.r S.b (.load n agg a) = some out) : Pure P S W g tm o out := by
  obtain ⟨dst, oop, ty, pos, after, guard⟩ := o
  unfold loadB at hp
  split at hp
  · rename_i t a' e; simp only at e; subst e
    simp only [Bool.and_eq_true] at hp
    obtain ⟨⟨h1, h2⟩, h3⟩ := hp
    have hx := opd_ok h h3
    simp only [act] at ha
    split at ha
    · rename_i L i c hv
      rw [hv] at hx
      obtain ⟨m, hm, ha⟩ := Option.bind_eq_some_iff.1 ha
      obtain ⟨row, hrow, ha⟩ := Option.bind_eq_some_iff.1 ha
      split at ha
      · rename_i hl
        obtain ⟨v, hv', rfl⟩ := Option.map_eq_some_iff.1 ha
        obtain ⟨ad, e1, e2⟩ := hx
        obtain ⟨q, oo, e3, rfl⟩ := e2 m hm
        obtain ⟨xs, e4, e5⟩ := cellsV_ok h.f hm e3 (i := i) ((row.drop c).take n) c (fun j t ht => by
          rw [List.getElem?_take] at ht
          split at ht
          · rw [List.getElem?_drop] at ht
            unfold cellAt
            rw [hrow]
            exact ht
          · cases ht)
        obtain ⟨y, e6, e7⟩ := loadVar_run (P := P) (W := W) h1 h2 (by rw [cellsV_length, List.length_take, List.length_drop]; omega) e4 hv' e5
        exact ⟨y, run_value (by simp only [Instr.loadAt, e1, Instr.sureAddr, Sem.run_bind, Sem.run_pure, Result.andThen_ok, e6]), e7, rfl, rfl, rfl, rfl⟩
      · cases ha
    · rename_i k c hv
      rw [hv] at hx
      obtain ⟨m, hm, ha⟩ := Option.bind_eq_some_iff.1 ha
      split at ha
      · rename_i hl
        obtain ⟨v, hv', rfl⟩ := Option.map_eq_some_iff.1 ha
        obtain ⟨ad, e1, e2⟩ := hx
        obtain rfl := e2 m hm
        obtain ⟨xs, e4, e5⟩ := boxCells_ok h hm n c hl
        obtain ⟨y, e6, e7⟩ := loadVar_run (P := P) (W := W) h1 h2 (boxCells_length _ _ _ _) e4 hv' e5
        exact ⟨y, run_value (by simp only [Instr.loadAt, e1, Instr.sureAddr, Sem.run_bind, Sem.run_pure, Result.andThen_ok, e6]), e7, rfl, rfl, rfl, rfl⟩
      · cases ha
    · cases ha
  · cases hp

/-! Stores. -/
theorem FInv.setBox {fo : NSet} {b : List (Nat × Nat)} (h : FInv C fo b W g) {k m c : Nat} (hk : getB b k = some m) {xs : List Value} (hc : c + xs.length ≤ m) : FInv C fo b (W.setCells (g.bx k).1 ((g.bx k).2 + c) xs) g := by
  have hh : ∀ q, q ≠ (g.bx k).1 → (W.setCells (g.bx k).1 ((g.bx k).2 + c) xs).heap[q]? = W.heap[q]? := fun q hq => setCells_heap _ _ _ _ _ hq
  refine ⟨fun L n hn => (h.node L n hn).world fun q hq => ?_, fun d m' j hd hj => ?_, fun d m' hd => ?_, h.x1, h.x2, h.x3, h.src, h.srb, h.lent, h.stat, ?_, h.n0, h.own⟩
  · have hne : q ≠ (g.bx k).1 := fun e => h.x2 L n k m hn hk (e ▸ hq)
    exact ⟨shape_of_heap (hh q hne), fun i => ⟨cell_of_heap (hh q hne), frozen_of_heap (hh q hne)⟩⟩
  · obtain ⟨⟨x, hx⟩, hf⟩ := h.box d m' j hd hj
    by_cases e : d = k
    · subst e
      obtain rfl : m' = m := Option.some.inj (hd.symm.trans hk)
      refine ⟨?_, by rw [World.frozen?_setCells]; exact hf⟩
      by_cases h1 : c ≤ j ∧ j < c + xs.length
      · have := World.cell?_setCells_in (g.bx d).1 xs ((g.bx d).2 + c) W (fun i hi => by
          obtain ⟨⟨y, hy⟩, _⟩ := h.box d m' (c + i) hd (by omega)
          rw [show (g.bx d).2 + c + i = (g.bx d).2 + (c + i) by omega, hy]
          rfl) (j - c) (by omega)
        rw [show (g.bx d).2 + c + (j - c) = (g.bx d).2 + j by omega] at this
        exact ⟨_, this⟩
      · exact ⟨x, by rw [World.cell?_setCells_out _ _ _ _ _ (fun _ _ => by simp only; omega)]; exact hx⟩
    · have hne := h.x3 d k m' m hd hk e
      exact ⟨⟨x, (cell_of_heap (hh _ hne)).trans hx⟩, (frozen_of_heap (hh _ hne)).trans hf⟩
  · rw [setCells_size]; exact h.boxlt d m' hd
  · refine h.fr.setCells ((h.srb k m hk).imp id fun hs => ⟨hs.1, fun j hj => ?_⟩)
    have := hs.2 (c + j) (by omega)
    rwa [← Nat.add_assoc] at this

theorem Inv.setBox (h : Inv C S W g tm) {k m c : Nat} (hk : getB S.b k = some m) {vs : List V} {xs : List Value} (hv : VsOk g (nR S.r) S.b vs xs) (hc : c + vs.length ≤ m) :
    Inv C ⟨slots k c vs ++ S.e, S.r, S.b⟩ (W.setCells (g.bx k).1 ((g.bx k).2 + c) xs) g tm := by
  have hl := hv.length
  refine ⟨h.f.setBox hk (by omega), fun t => ?_, fun d' m' j x hm hj hx => ?_⟩
  · rw [lk_slots, if_neg (by simp)]; exact h.e t
  · rw [lk_slots]
    by_cases e : d' = k
    · subst e
      obtain rfl : m' = m := Option.some.inj (hm.symm.trans hk)
      by_cases h1 : c ≤ j ∧ j < c + vs.length
      · rw [if_pos ⟨rfl, by simp only; omega, by simp only; omega⟩]
        have := World.cell?_setCells_in (g.bx d').1 xs ((g.bx d').2 + c) W (fun i hi => by
          obtain ⟨⟨y, hy⟩, _⟩ := h.f.box d' m' (c + i) hk (by omega)
          rw [show (g.bx d').2 + c + i = (g.bx d').2 + (c + i) by omega, hy]
          rfl) (j - c) (by omega)
        rw [show (g.bx d').2 + c + (j - c) = (g.bx d').2 + j by omega] at this
        rw [this] at hx
        obtain ⟨v, hvk⟩ : ∃ v, vs[j - c]? = some v := ⟨_, List.getElem?_eq_getElem (by omega)⟩
        obtain ⟨y, e1, e2⟩ := hv.get (j - c) v hvk
        rw [List.getElem?_eq_getElem (by omega), hx] at e1
        obtain rfl := Option.some.inj e1
        simp only [Nat.add_sub_cancel]
        rw [List.getD_eq_getElem?_getD, hvk]
        exact e2
      · rw [if_neg (by simp only; omega)]
        rw [World.cell?_setCells_out _ _ _ _ _ (fun _ _ => by simp only; omega)] at hx
        exact h.c d' m' j x hm hj hx
    · rw [if_neg (fun hh => e hh.1)]
      have hne := h.f.x3 d' k m' m hm hk e
      rw [cell_of_heap (setCells_heap _ _ _ _ _ hne)] at hx
      exact h.c d' m' j x hm hj hx

theorem hit_mem {p : List Loc} {L M : Loc} (hL : L ∈ p) (hk : L.key = M.key) (hp : pfx L.path M.path = true) : hit p M = true := by
  induction p with
  | nil => cases hL
  | cons x p ih =>
    simp only [hit, Bool.or_eq_true, Bool.and_eq_true, beq_iff_eq]
    rcases List.mem_cons.1 hL with rfl | hL
    · exact .inl ⟨hk, hp⟩
    · exact .inr (ih hL)

theorem pfx_append (p q : Path) : pfx p (p ++ q) = true := by
  induction p with
  | nil => cases q <;> rfl
  | cons x p ih => obtain ⟨i, j⟩ := x; simp [pfx, ih]

theorem hit_poisOf {L : Loc} {i c k : Nat} {ts : List T} {t : T} (ht : ts[k]? = some t) (hs : solid t = true) {p : Path} : hit (poisOf L i c ts) ⟨L.key, L.path ++ (i, c + k) :: p⟩ = true := by
  have hk := (List.getElem?_eq_some_iff.1 ht).1
  unfold poisOf
  rw [if_pos (List.any_eq_true.2 ⟨t, List.mem_of_getElem? ht, hs⟩)]
  refine hit_mem (L := L.ext i (c + k)) (List.mem_map.2 ⟨k, List.mem_range.2 hk, rfl⟩) rfl ?_
  have := pfx_append (L.path ++ [(i, c + k)]) p
  simpa [Loc.ext] using this

/-- What was there behind a store: like nodes outside of the cells. -/
theorem put_old {r r2 : Roots} {L : Loc} {i c : Nat} {ts : List T} (hr : modAt r L (putCells i c ts) = some r2) {M : Loc} {n : Node} (hn : nodeAt r2 M = some n) :
    (∃ n', nodeAt r M = some n' ∧ n.es = n'.es ∧ under L i c ts.length M.g = none) ∨ ∃ k p t, under L i c ts.length M.g = some (k, p) ∧ ts[k]? = some t ∧ (t.node .own).isSome = true ∧ M = ⟨L.key, L.path ++ (i, c + k) :: p⟩ := by
  obtain ⟨m, e', h1, h2, h3, h4, h5⟩ := modAt_some (putCells_len i c ts) hr
  obtain ⟨q1, ⟨row, hrow, hfit⟩, q3⟩ := putCells_some h2
  cases hu : under L i c ts.length M.g with
  | none =>
    refine .inl ?_
    by_cases hpre : M.key = L.key ∧ L.path <+: M.path
    · obtain ⟨k, p⟩ := M
      obtain ⟨e1, s, hs⟩ := hpre
      simp only at e1 hs
      subst e1 hs
      rw [h3 s] at hn
      have hnr := atF_append (foR r) 0 L.key L.path s
      rw [show atF (foR r) ⟨0, L.key, L.path⟩ = some m from h1, Option.bind_some] at hnr
      cases s with
      | nil =>
        obtain rfl := Option.some.inj hn
        exact ⟨m, hnr, rfl, rfl⟩
      | cons x s =>
        obtain ⟨i', j'⟩ := x
        rw [walk_cons, q3] at hn
        split at hn
        · rename_i hij
          obtain ⟨rfl, hj1, hj2⟩ := hij
          have hu2 := under_mk L (i := i') (c := c) (n := ts.length) (k := j' - c) (by omega) s
          rw [show c + (j' - c) = j' by omega] at hu2
          have := hu.symm.trans hu2
          cases this
        · exact ⟨n, hnr.trans (by rw [walk_cons]; exact hn), rfl, rfl⟩
    · obtain ⟨m1, e1, e2⟩ := h4 M n (fun a b => hpre ⟨a, b⟩) hn
      exact ⟨m1, e1, e2.es, rfl⟩
  | some y =>
    obtain ⟨k, p⟩ := y
    obtain ⟨hk, hM⟩ := under_some hu
    obtain ⟨mk, mp⟩ := M
    simp only [Loc.g, GLoc.mk.injEq, true_and] at hM
    obtain ⟨rfl, rfl⟩ := hM
    refine .inr ⟨k, p, ts[k], rfl, List.getElem?_eq_getElem hk, ?_, rfl⟩
    rw [h3, walk_cons, q3, if_pos ⟨rfl, by omega, by omega⟩, show c + k - c = k by omega, List.getElem?_eq_getElem hk, Option.bind_some] at hn
    obtain ⟨m', hm', _⟩ := Option.bind_eq_some_iff.1 hn
    have hroot : ∀ ro, ts[k].node ro = some m' → (ts[k].node .own).isSome = true := by
      intro ro hh
      cases e : ts[k] with
      | arr _ _ _ => rfl
      | _ => rw [e] at hh; cases hh
    exact hroot _ hm'

def storeB (P : Program) (n : Nat) (a' x' : Opd) : Op → Bool
  | .store t a x => sizeB P t n && opdB a a' && opdB x x'
  | _ => false

theorem sure_known {v : V} (h : v.cells.all V.sure = true) : v.known = true := by
  cases v <;> first | rfl | (simp [V.cells, V.sure] at h)

theorem sure_one {fo : NSet} {b : List (Nat × Nat)} : ∀ {l : List V} {xs : List Value}, VsOk g fo b l xs → l.all V.sure = true → ∀ x ∈ xs, x.oneCell' = true
  | [], xs, h, _, x, hx => by simp only [VsOk] at h; subst h; cases hx
  | v :: l, xs, h, hs, x, hx => by
    obtain ⟨y, ys, rfl, h1, h2⟩ := h
    simp only [List.all_cons, Bool.and_eq_true] at hs
    rcases List.mem_cons.1 hx with rfl | hx
    · exact h1.one hs.1
    · exact sure_one h2 hs.2 x hx

theorem storeVar_run {t n : Nat} (hs : sizeB P t n = true) {v : Value} (hn : v.cells.toList.length = n) {q p : Nat} (hc : ∀ j, j < n → (W.cell? ⟨q, p + j, none⟩).isSome = true) (hf : ∀ j, j < n → W.frozen? ⟨q, p + j, none⟩ = false)
    (h1 : ∀ x ∈ v.cells.toList, x.oneCell' = true) : (storeVar t ⟨q, p, none⟩ v).run P W = .ok () (W.setCells q p v.cells.toList) := by
  have := run_storeCells_cells (P := P) q p v.cells.toList 0 W (fun j hj => by simpa using hc j (by omega)) (fun j hj => by simpa using hf j (by omega)) h1
  have hsz : v.cells.size = n := by simpa using hn
  simp only [Nat.add_zero] at this
  simp only [storeVar, Sem.run_bind, sizeB_run hs, Result.andThen_ok, hsz, ne_eq, not_true_eq_false, if_false, this]

/-- The names of trees that stand side by side. -/
def kap (k : Nat) : GLoc := ⟨1, (0, k), []⟩

theorem storePt_ok (h : Inv C S W g tm) {L : Loc} {i c : Nat} {fs : Fat} {vs : List V} {xs : List Value} (hv : VsOk g (nR S.r) S.b vs xs) {r1 r2 : Roots} {ts : List T} (ht : takeCs S.r fs vs = some (ts, r1)) {m : Node} (hm : nodeAt r1 L = some m) (hro : m.ro = .own)
    (hr : modAt r1 L (putCells i c ts) = some r2) {a : Addr} (hp : VOk g (nR S.r) S.b (.pt L i c) (.pointer (some a))) :
    ∃ q p g', a = ⟨q, p, none⟩ ∧ (∀ j, j < vs.length → (W.cell? ⟨q, p + j, none⟩).isSome = true) ∧ (∀ j, j < vs.length → W.frozen? ⟨q, p + j, none⟩ = false) ∧
      Inv C ⟨bar (poisOf L i c ts) S.e, r2, S.b⟩ (W.setCells q p xs) g' tm := by
  have hf := h.f
  rw [show nR S.r = atF (foD S.r (fun _ => none)) from by rw [← foR_eq]] at hf hv
  obtain ⟨g1, D1, k1, k2, k3, k4, k5, k6, k7, k8, k9⟩ := takeCs_ok vs fs xs S.r r1 (fun _ => none) g ts (fun k => (0, k)) (fun i j e => (Prod.mk.inj e).2) hf hv ht (fun _ => rfl)
  have hg1 : ∀ M : Loc, g1.hd M.g = g.hd M.g := fun M => k7 _ (by simp [Loc.g])
  obtain ⟨m1, hm1, hlike⟩ := k8 L m hm
  obtain ⟨a', e1, e2⟩ := hp
  obtain ⟨q, o, e3, e4⟩ := e2 m1 hm1
  have e5 : a = a' := by simpa using e1
  rw [← e5] at e4
  have hes : m.es = m1.es := hlike.es
  rw [← hes] at e4
  have ha1 : (g1.hd L.g).a = some ⟨q, o, none⟩ := by rw [hg1]; exact e3
  obtain ⟨_, _, hm', hput, _⟩ := modAt_some (putCells_len i c ts) hr
  obtain rfl := Option.some.inj (hm.symm.trans hm')
  obtain ⟨_, ⟨row, hrow, hfit⟩, _⟩ := putCells_some hput
  have hok := k1.node L.g m hm
  have hil : i < m.el.length := (List.getElem?_eq_some_iff.1 hrow).1
  have hrl : row.length = m.es := hok.rows row (List.mem_of_getElem? hrow)
  have hcap : (g1.hd L.g).cap ≠ 0 := by have := hok.len; omega
  have hcap2 : (i + 1) * m.es ≤ (g1.hd L.g).cap * m.es := Nat.mul_le_mul_right _ (by have := hok.len; omega)
  have hs1 : (i + 1) * m.es = i * m.es + m.es := Nat.succ_mul _ _
  have hxl := hv.length
  have hfin := graftCells k1 hm hro hr kap (fun _ => rfl) (fun k p k' p' _ _ e => by
      simp only [kap, GLoc.app, GLoc.mk.injEq, Prod.mk.injEq, true_and, List.nil_append] at e; exact e)
    (fun k t hk p n hn => by
      unfold atF foD
      simp only [kap, GLoc.app, List.nil_append]
      rw [if_neg (by decide), if_pos trivial, k4 k t hk]
      exact hn) (xs := xs) (by rw [hxl, k2]) (fun k t x hk hx => k3 k t x hk hx) ha1
  refine ⟨q, o + i * m.es + c, _, e4, fun j hj => ?_, fun j hj => ?_, ⟨hfin, fun t => ?_, fun d' m' j x hd hj hx => ?_⟩⟩
  · have hjr : c + j < row.length := by omega
    obtain ⟨q', o', x, f1, f2, _⟩ := hok.cells i (c + j) row[c + j] (by unfold cellAt; rw [hrow]; simp [hjr])
    rw [ha1] at f1
    obtain ⟨rfl, rfl⟩ : q = q' ∧ o = o' := by simpa using f1
    rw [show o + i * m.es + c + j = o + i * m.es + (c + j) by omega, f2]
    rfl
  · obtain ⟨q', o', ty, sz, f1, f2, f3, f4⟩ := hok.mem hcap
    rw [ha1] at f1
    obtain ⟨rfl, rfl⟩ : q = q' ∧ o = o' := by simpa using f1
    have := f4 hro (i * m.es + c + j) (by omega)
    rwa [show o + (i * m.es + c + j) = o + i * m.es + c + j by omega] at this
  all_goals
    have mv : ∀ v x, VOk g (nR S.r) S.b v x → VOk (cellsG g1 L i c ts.length kap) (nR r2) S.b (pois (poisOf L i c ts) v) x :=
      fun v x hx => VOk.move (g := g) (fo := nR S.r) (b := S.b) (p := poisOf L i c ts) (fun M n' hn' hh => by
        rcases put_old hr hn' with ⟨n1, f1, f2, f3⟩ | ⟨k, p, t, f1, f2, f3, rfl⟩
        · obtain ⟨n0, f4, f5⟩ := k8 M n1 f1
          refine ⟨n0, f4, f2.trans f5.es, ?_⟩
          simp only [cellsG, f3]
          exact hg1 M
        · have hso : solid t = true := by
            cases t with
            | arr _ _ _ => rfl
            | _ => cases f3
          rw [hit_poisOf f2 hso] at hh
          cases hh) (fun d m hd _ => ⟨m, hd, by simp only [cellsG]; rw [k6]⟩) v x hx
  · rw [lk_bar]; exact mv _ _ (h.e t)
  · rw [lk_bar]
    have hbx : (cellsG g1 L i c ts.length kap).bx d' = g.bx d' := by simp only [cellsG]; rw [k6]
    rw [hbx] at hx
    have hne : (g.bx d').1 ≠ q := fun e => h.f.x2 L.g m1 d' m' hm1 hd (by
      rw [← hg1, e]
      exact blk_of ha1 hcap)
    rw [cell_of_heap (setCells_heap _ _ _ _ _ hne)] at hx
    exact mv _ _ (h.c d' m' j x hd hj hx)

theorem run_unit {s : Sem Unit} {W' : World} (hs : s.run P W = .ok () W') : (do s; pure .skip : Sem Next).run P W = .ok .skip W' := by
  rw [Sem.run_bind, hs]; rfl

theorem store_ok (h : Inv C S W g tm) {fs : Fat} {a x : Opd} (hp : storeB P fs.length a x o.op = true) (ha : act F d S.e S.r S.b (.store fs a x) = some out) : Step P C S W tm o out := by
  obtain ⟨dst, oop, ty, pos, after, guard⟩ := o
  unfold storeB at hp
  split at hp
  · rename_i t a' x' e; simp only at e; subst e
    simp only [Bool.and_eq_true] at hp
    obtain ⟨⟨h1, h2⟩, h3⟩ := hp
    have hav := opd_ok h h2
    have hxv := opd_ok h h3
    simp only [act] at ha
    split at ha
    · rename_i hs
      obtain ⟨hs1, hs2⟩ := hs
      have hc := cells_ok hxv (sure_known hs2)
      have hlen := hc.length
      have hone := sure_one hc hs2
      split at ha
      · rename_i L i c hv
        obtain ⟨⟨ts, r1⟩, ht, ha⟩ := Option.bind_eq_some_iff.1 ha
        obtain ⟨m, hm, ha⟩ := Option.bind_eq_some_iff.1 ha
        split at ha
        · rename_i hro
          obtain ⟨r2, hr, rfl⟩ := Option.map_eq_some_iff.1 ha
          rw [hv] at hav
          have hav' := hav
          obtain ⟨ad, e1, _⟩ := hav'
          rw [e1] at hav
          obtain ⟨q, p, g', rfl, c1, c2, c3⟩ := storePt_ok h hc ht hm hro hr hav
          have hrun := storeVar_run (P := P) (W := W) h1 (v := evalT tm x') (by omega) (q := q) (p := p) (fun j hj => c1 j (by omega)) (fun j hj => c2 j (by omega)) hone
          refine ⟨.skip, undef, _, g', run_unit ?_, .inr ⟨rfl, rfl⟩, trivial, c3⟩
          simp only [Instr.storeAt, e1, Instr.sureAddr, Sem.run_bind, Sem.run_pure, Result.andThen_ok]
          exact hrun
        · cases ha
      · rename_i k c hv
        obtain ⟨m, hm, ha⟩ := Option.bind_eq_some_iff.1 ha
        split at ha
        · rename_i hfit
          obtain rfl := Option.some.inj ha
          rw [hv] at hav
          obtain ⟨ad, e1, e2⟩ := hav
          obtain rfl := e2 m hm
          have hrun := storeVar_run (P := P) (W := W) h1 (v := evalT tm x') (by omega) (q := (g.bx k).1) (p := (g.bx k).2 + c) (fun j hj => by
              obtain ⟨⟨y, hy⟩, _⟩ := h.f.box k m (c + j) hm (by omega)
              rw [show (g.bx k).2 + c + j = (g.bx k).2 + (c + j) by omega, hy]
              rfl) (fun j hj => by
              obtain ⟨_, hy⟩ := h.f.box k m (c + j) hm (by omega)
              rwa [show (g.bx k).2 + c + j = (g.bx k).2 + (c + j) by omega]) hone
          refine ⟨.skip, undef, _, g, run_unit ?_, .inr ⟨rfl, rfl⟩, trivial, h.setBox hm hc (by omega)⟩
          simp only [Instr.storeAt, e1, Instr.sureAddr, Sem.run_bind, Sem.run_pure, Result.andThen_ok]
          exact hrun
        · cases ha
      · cases ha
    · cases ha
  · cases hp

end
end Go.Proofs.Ytekfjbejfondnaa.Tom
/-! Operations on memory: new arrays. -/
namespace Go.Proofs.Ytekfjbejfondnaa.Tom
open Go

/-- One value for each number below n. -/
theorem list_of {Q : Nat → Value → Prop} : ∀ (n : Nat), (∀ k, k < n → ∃ x, Q k x) → ∃ xs : List Value, xs.length = n ∧ ∀ (k : Nat) (x : Value), xs[k]? = some x → Q k x
  | 0, _ => ⟨[], rfl, by simp⟩
  | n + 1, h => by
    obtain ⟨xs, h1, h2⟩ := list_of n fun k hk => h k (by omega)
    obtain ⟨y, hy⟩ := h n (by omega)
    refine ⟨xs ++ [y], by simp [h1], fun k x hx => ?_⟩
    by_cases hk : k < n
    · rw [List.getElem?_append_left (by omega)] at hx
      exact h2 k x hx
    · rw [List.getElem?_append_right (by omega)] at hx
      have : k = n := by
        have := (List.getElem?_eq_some_iff.1 hx).1
        simp at this
        omega
      subst this
      rw [h1, Nat.sub_self] at hx
      obtain rfl := Option.some.inj hx
      exact hy

/-- Cells of rows stand side by side. -/
theorem rows_of {Q : Nat → Nat → Value → Prop} {n es : Nat} (h : ∀ i j, i < n → j < es → ∃ x, Q i j x) : ∃ xs : List Value, xs.length = n * es ∧ ∀ (i j : Nat) (x : Value), i < n → j < es → xs[i * es + j]? = some x → Q i j x := by
  obtain ⟨xs, h1, h2⟩ := list_of (Q := fun k x => Q (k / es) (k % es) x) (n * es) fun k hk => by
    have he : 0 < es := by
      rcases Nat.eq_zero_or_pos es with h0 | h0
      · subst h0; simp at hk
      · exact h0
    exact h _ _ (Nat.div_lt_of_lt_mul (by rwa [Nat.mul_comm])) (Nat.mod_lt _ he)
  refine ⟨xs, h1, fun i j x hi hj hx => ?_⟩
  have := h2 _ _ hx
  have e1 : (i * es + j) / es = i := by
    rw [Nat.add_comm, Nat.add_mul_div_right _ _ (by omega), Nat.div_eq_of_lt hj, Nat.zero_add]
  have e2 : (i * es + j) % es = j := by
    rw [Nat.add_comm, Nat.add_mul_mod_self_right, Nat.mod_eq_of_lt hj]
  rwa [e1, e2] at this

theorem cellAt_some {el : List (List T)} {i j : Nat} {row : List T} (h1 : el[i]? = some row) (h2 : j < row.length) : cellAt el i j = some row[j] := by
  unfold cellAt
  rw [h1]
  exact List.getElem?_eq_getElem h2

theorem cellAt_row {el : List (List T)} {es i j : Nat} {t : T} (hr : ∀ row ∈ el, row.length = es) (h : cellAt el i j = some t) : i < el.length ∧ j < es := by
  refine ⟨cellAt_lt h, ?_⟩
  unfold cellAt at h
  obtain ⟨row, h1, h2⟩ := Option.bind_eq_some_iff.1 h
  rw [← hr row (List.mem_of_getElem? h1)]
  exact (List.getElem?_eq_some_iff.1 h2).1

/-- The names of detached rows' trees. -/
def kapR (i j : Nat) : GLoc := ⟨1, (i, j), []⟩

theorem pois_key {k : Key} {M : Loc} (h : hit [⟨k, []⟩] M = false) : M.key ≠ k := by
  intro e
  simp [hit, e, pfx] at h

section
variable {P : Program} {F : Fun} {C : Ctx} {S : St} {W : World} {g : Gh} {tm : Nat → Value} {o : Oper} {d : Nat} {out : Out}

/-- A new root (k, []) behind which all other names lead where they led. -/
theorem Inv.rooted (h : Inv C S W g tm) {r1 : Roots} {g1 g2 : Gh} {k : Key} {n : Node} {W' : World} (hbx : g1.bx = g.bx) (hg1 : ∀ M : Loc, g1.hd M.g = g.hd M.g) (hle : Less S.r r1)
    (h2 : FInv C (nR ((k, n) :: r1)) S.b W' g2) (hb2 : g2.bx = g1.bx) (hg2 : ∀ M : Loc, M.key ≠ k → g2.hd M.g = g1.hd M.g)
    (hW : ∀ d m, getB S.b d = some m → W'.heap[(g.bx d).1]? = W.heap[(g.bx d).1]?) : Inv C ⟨bar [⟨k, []⟩] S.e, (k, n) :: r1, S.b⟩ W' g2 tm := by
  have mv : ∀ v x, VOk g (nR S.r) S.b v x → VOk g2 (nR ((k, n) :: r1)) S.b (pois [⟨k, []⟩] v) x :=
    fun v x hx => VOk.move (g := g) (fo := nR S.r) (b := S.b) (p := [⟨k, []⟩]) (fun M n' hn' hh => by
      have hk := pois_key hh
      have hn1 : nodeAt r1 M = some n' := by
        have : nodeAt ((k, n) :: r1) M = some n' := hn'
        unfold nodeAt at this ⊢
        rwa [getR, if_neg (fun e => hk e.symm)] at this
      obtain ⟨m, e1, e2⟩ := hle M n' hn1
      exact ⟨m, e1, e2.es, (hg2 M hk).trans (hg1 M)⟩) (fun d m hd _ => ⟨m, hd, by rw [hb2, hbx]⟩) v x hx
  refine ⟨h2, fun t => ?_, fun d m j x hd hj hx => ?_⟩
  · rw [lk_bar]; exact mv _ _ (h.e t)
  · rw [lk_bar]
    rw [hb2, hbx] at hx
    rw [cell_of_heap (hW d m hd)] at hx
    exact mv _ _ (h.c d m j x hd hj hx)

theorem alloc_heap_lt {W1 : World} (he : W1.heap = W.heap) (ob : Obj) {q : Nat} (h : q < W.heap.size) : (W1.alloc ob).heap[q]? = W.heap[q]? := by
  rw [heap_alloc_lt W1 ob (by rw [he]; exact h), he]

/-- A new array. -/
theorem newBlock (h : Inv C S W g tm) {r1 : Roots} {D1 : Key → Option Node} {g1 : Gh} (k1 : FInv C (atF (foD r1 D1)) S.b W g1) (hbx : g1.bx = g.bx) (hg1 : ∀ M : Loc, g1.hd M.g = g.hd M.g) (hle : Less S.r r1)
    (k : Key) {rows : List (List T)} {es : Nat} (hrows : ∀ row ∈ rows, row.length = es) (κ : Nat → Nat → GLoc) (hκz : ∀ i j, (κ i j).z = 1)
    (hκ : ∀ i j p i' j' p', cellAt rows i j ≠ none → cellAt rows i' j' ≠ none → (κ i j).app p = (κ i' j').app p' → i = i' ∧ j = j' ∧ p = p')
    (hD : ∀ i j t, cellAt rows i j = some t → ∀ p m, (t.node .own).bind (fun n => walk n p) = some m → atF (foD r1 D1) ((κ i j).app p) = some m)
    {W1 : World} (hgr : Grows W W1) (he : W1.heap = W.heap) (cells : Array Value) (ty : TypeId) {cap : Nat} (hlen : rows.length ≤ cap) (hsz : cap * es ≤ cells.size)
    (hcells : ∀ i j t, cellAt rows i j = some t → ∃ x, cells[i * es + j]? = some x ∧ CellOk g1 (κ i j) t x) :
    ∃ g', Inv C ⟨bar [⟨k, []⟩] S.e, (k, ⟨.own, es, rows⟩) :: r1, S.b⟩ (W1.alloc (.cells cells ty)) g' tm ∧ VOk g' (nR ((k, ⟨.own, es, rows⟩) :: r1)) S.b (.sl ⟨k, []⟩ 0 rows.length) (.slice (some ⟨W.heap.size, 0, none⟩) rows.length cap) := by
  have hes : W1.heap.size = W.heap.size := by rw [he]
  have hfr : Frame' C (W1.alloc (.cells cells ty)) := k1.fr.grows (hgr.trans (Grows.alloc W1 _))
  have hfin := graftRoot k1 (k := k) hrows κ hκz hκ hD (q := W.heap.size) (W' := W1.alloc (.cells cells ty)) (fun q' hq' _ => alloc_heap_lt he _ hq') (by simp [hes]) hfr
    (a := some ⟨W.heap.size, 0, none⟩) (cap := cap) hlen
    (fun _ => ⟨0, ty, cells.size, rfl, by rw [← hes]; exact alloc_shape _ _ _, by simpa using hsz, fun k _ => by rw [← hes]; exact alloc_frozen _ _ _ _⟩)
    (fun i j t ht => by
      obtain ⟨x, e1, e2⟩ := hcells i j t ht
      refine ⟨0, x, rfl, ?_, e2⟩
      rw [← hes, alloc_cell, Nat.zero_add]
      exact e1)
    (fun d m hd e => by have := k1.boxlt d m hd; omega)
    (fun L n _ hn hq => by have := (k1.node L n hn).lt hq; omega)
    (fun i j p n _ hn hq => by have := (k1.node _ n hn).lt hq; omega)
    (fun _ _ _ => .inl k1.fr.size)
  refine ⟨_, h.rooted hbx hg1 hle hfin rfl (fun M hM => ?_) (fun d m hd => alloc_heap_lt he _ (h.f.boxlt d m hd)), ?_⟩
  · simp only [graftG]
    rw [if_neg (fun e => hM e.2)]
  · refine ⟨_, _, rfl, fun n hn => ?_⟩
    have hn' : n = ⟨.own, es, rows⟩ := by
      have : nodeAt ((k, ⟨.own, es, rows⟩) :: r1) ⟨k, []⟩ = some n := hn
      simp only [nodeAt, getR, if_true, Option.bind_some, walk] at this
      exact (Option.some.inj this).symm
    have hh : (graftG g1 k κ ⟨some ⟨W.heap.size, 0, none⟩, cap⟩).hd (Loc.g ⟨k, []⟩) = ⟨some ⟨W.heap.size, 0, none⟩, cap⟩ := by simp [graftG, Loc.g]
    rw [hh]
    exact ⟨hlen, Nat.zero_add _, fun _ => ⟨W.heap.size, 0, rfl, by simp⟩⟩

theorem newRoot_some {r r' : Roots} {k : Key} {n : Node} (h : newRoot r k n = some r') : r' = (k, n) :: r := by
  unfold newRoot at h
  split at h
  · exact (Option.some.inj h).symm
  · cases h

/-! A slice of given parts. -/
theorem fillS_fill {e : Env} {es : Nat} : ∀ {ps : List (Nat × Opd)} {z rows : List (List V)}, (∀ row ∈ z, row.length = es) → fillS e es z ps = some rows →
    fillV e z.flatten (ps.map fun p => (p.1 * es, es, p.2)) = some rows.flatten ∧ (∀ row ∈ rows, row.length = es) ∧ rows.length = z.length
  | [], z, rows, hz, h => by obtain rfl := Option.some.inj h; exact ⟨rfl, hz, rfl⟩
  | (i, x) :: ps, z, rows, hz, h => by
    simp only [fillS] at h
    split at h
    · rename_i hc
      obtain ⟨h1, h2, h3⟩ := hc
      have hz' : ∀ row ∈ z.set i (x.ev e).cells, row.length = es := by
        intro row hr
        rcases List.mem_or_eq_of_mem_set hr with hr | rfl
        · exact hz row hr
        · exact h1
      obtain ⟨e1, e2, e3⟩ := fillS_fill hz' h
      refine ⟨?_, e2, by simpa using e3⟩
      simp only [List.map_cons, fillV]
      rw [if_pos ⟨h1, h3⟩]
      have hput : putVs z.flatten (i * es) (x.ev e).cells = some (z.set i (x.ev e).cells).flatten := flat_set z i _ hz h1 h2
      rw [hput]
      exact e1
    · cases h
where
  flat_set {es : Nat} : ∀ (z : List (List V)) (i : Nat) (l : List V), (∀ row ∈ z, row.length = es) → l.length = es → i < z.length → putVs z.flatten (i * es) l = some (z.set i l).flatten
  | [], i, l, _, _, hi => by simp at hi
  | r :: z, 0, l, hz, hl, _ => by
    have hr := hz r (by simp)
    unfold putVs
    rw [if_pos (by simp; omega)]
    simp only [Nat.zero_mul, List.take_zero, List.nil_append, Nat.zero_add, List.flatten_cons, List.set_cons_zero]
    rw [List.drop_append_of_le_length (by omega), List.drop_of_length_le (by omega)]
    simp
  | r :: z, i + 1, l, hz, hl, hi => by
    have hr := hz r (by simp)
    have ih := flat_set z i l (fun row h => hz row (by simp [h])) hl (by simpa using hi)
    unfold putVs at ih ⊢
    split at ih
    · rename_i hle
      have e := Option.some.inj ih
      have h1 : (i + 1) * es = r.length + i * es := by rw [Nat.add_mul]; omega
      rw [if_pos (by simp only [List.flatten_cons, List.length_append]; omega)]
      simp only [List.flatten_cons, List.set_cons_succ]
      rw [← e, h1, List.take_length_add_append, show r.length + i * es + l.length = r.length + (i * es + l.length) by omega, List.drop_length_add_append]
      simp
    · cases ih

end
end Go.Proofs.Ytekfjbejfondnaa.Tom
/-! Operations on memory: slices of given parts, made slices. -/
namespace Go.Proofs.Ytekfjbejfondnaa.Tom
open Go

theorem flatten_get {α : Type} {es : Nat} : ∀ (z : List (List α)) (i j : Nat), (∀ row ∈ z, row.length = es) → j < es → z.flatten[i * es + j]? = (z[i]?).bind fun row => row[j]?
  | [], i, j, _, _ => by simp
  | r :: z, 0, j, hz, hj => by
    have hr := hz r (by simp)
    simp only [Nat.zero_mul, Nat.zero_add, List.flatten_cons, List.getElem?_cons_zero, Option.bind_some]
    rw [List.getElem?_append_left (by omega)]
  | r :: z, i + 1, j, hz, hj => by
    have hr := hz r (by simp)
    have ih := flatten_get z i j (fun row h => hz row (by simp [h])) hj
    simp only [List.flatten_cons, List.getElem?_cons_succ]
    rw [List.getElem?_append_right (by rw [Nat.add_mul]; omega), ← ih]
    congr 1
    rw [Nat.add_mul]; omega

theorem flatten_len {α : Type} {es : Nat} : ∀ (z : List (List α)), (∀ row ∈ z, row.length = es) → z.flatten.length = z.length * es
  | [], _ => by simp
  | r :: z, hz => by
    rw [List.flatten_cons, List.length_append, flatten_len z (fun row h => hz row (by simp [h])), hz r (by simp), List.length_cons, Nat.add_mul]
    omega

theorem made_get {z : Array Value} {n k : Nat} (hk : k < n) (hz : k % z.size < z.size) : (madeCells z n)[k]? = z[k % z.size]? := by
  simp [madeCells, hk, hz]

theorem divmod {es k n : Nat} (hk : k < n * es) : k / es < n ∧ k % es < es ∧ k / es * es + k % es = k := by
  have he : 0 < es := by
    rcases Nat.eq_zero_or_pos es with h0 | h0
    · subst h0; simp at hk
    · exact h0
  exact ⟨Nat.div_lt_of_lt_mul (by rwa [Nat.mul_comm]), Nat.mod_lt _ he, by rw [Nat.mul_comm]; exact Nat.div_add_mod k es⟩

/-- Zero values, row by row. -/
theorem zeros_ok {g : Gh} {fo : NSet} {b : List (Nat × Nat)} {zv : Value} {es : Nat} {z : List (List V)} (hz : ∀ row ∈ z, constL zv.cells.toList row = true) (hl : ∀ row ∈ z, row.length = es) :
    VsOk g fo b z.flatten (madeCells zv.cells (z.length * es)).toList := by
  have hfl := flatten_len z hl
  refine VsOk.mk (by rw [hfl]; simp [size_madeCells]) fun k v x hv hx => ?_
  have hk : k < z.length * es := by rw [← hfl]; exact (List.getElem?_eq_some_iff.1 hv).1
  obtain ⟨h1, h2, h3⟩ := divmod hk
  have hrow := hz z[k / es] (List.getElem_mem h1)
  have hvs : VsOk g fo b z[k / es] zv.cells.toList := constL_ok hrow
  have hsz : zv.cells.size = es := by
    have := hvs.length
    rw [hl _ (List.getElem_mem h1)] at this
    simpa using this
  have e1 := flatten_get z (k / es) (k % es) hl h2
  rw [h3, hv, List.getElem?_eq_getElem h1, Option.bind_some] at e1
  obtain ⟨y, e2, e3⟩ := hvs.get _ v e1.symm
  have e4 := made_get (z := zv.cells) (n := z.length * es) (k := k) hk (by rw [hsz]; exact h2)
  rw [hsz] at e4
  rw [Array.getElem?_toList] at hx e2
  rw [e4, e2] at hx
  exact Option.some.inj hx ▸ e3

/-- Cells side by side as rows. -/
def split (es n : Nat) (xs : List Value) : List (List Value) := (List.range n).map fun i => (xs.drop (i * es)).take es

theorem split_get {es n : Nat} {xs : List Value} {i : Nat} {row : List Value} (h : (split es n xs)[i]? = some row) : i < n ∧ row = (xs.drop (i * es)).take es := by
  unfold split at h
  rw [List.getElem?_map] at h
  obtain ⟨k, h1, rfl⟩ := Option.map_eq_some_iff.1 h
  have h2 := (List.getElem?_eq_some_iff.1 h1)
  obtain ⟨h3, h4⟩ := h2
  simp at h3 h4
  subst h4
  exact ⟨h3, rfl⟩

theorem split_ok {g : Gh} {fo : NSet} {b : List (Nat × Nat)} {es : Nat} {z : List (List V)} {xs : List Value} (hl : ∀ row ∈ z, row.length = es) (h : VsOk g fo b z.flatten xs) (i : Nat) (v : List V) (x : List Value)
    (hv : z[i]? = some v) (hx : (split es z.length xs)[i]? = some x) : VsOk g fo b v x := by
  obtain ⟨hi, rfl⟩ := split_get hx
  have hvl := hl v (List.mem_of_getElem? hv)
  have hfl := flatten_len z hl
  have hxl := h.length
  have hle : (i + 1) * es ≤ z.length * es := Nat.mul_le_mul_right _ hi
  have hs : (i + 1) * es = i * es + es := Nat.succ_mul _ _
  refine VsOk.mk (by rw [List.length_take, List.length_drop]; omega) fun j u y hu hy => ?_
  have hj : j < es := by rw [← hvl]; exact (List.getElem?_eq_some_iff.1 hu).1
  rw [List.getElem?_take, if_pos hj, List.getElem?_drop] at hy
  have e1 := flatten_get z i j hl hj
  rw [hv, Option.bind_some, hu] at e1
  obtain ⟨w, e2, e3⟩ := h.get _ _ e1
  rw [hy] at e2
  exact Option.some.inj e2 ▸ e3

def bsliceB (P : Program) (es : Nat) (z : List (List V)) (ps : List (Nat × Opd)) : Op → Bool
  | .buildSlice t len parts => match P.underlying t with
    | some (.slice e) => sizeB P e es && (z.length == len) && decide (len * es ≤ 16777216) && (z.all fun row => zeroB P e row && (row.length == es)) &&
        partsB (fun i => some (i * es, es)) parts.toList (ps.map fun p => (p.1 * es, es, p.2))
    | _ => false
  | _ => false

def unT : T → Option (V × Option Nat)
  | .val v => some (.val v, none)
  | .nil => some (.nil, none)
  | .arr .own es [] => some (.nil, some es)
  | _ => none

def unTs : List T → Option (List V × Fat)
  | [] => some ([], [])
  | t :: l => (unT t).bind fun x => (unTs l).map fun y => (x.1 :: y.1, x.2 :: y.2)

theorem takeCs_un (r : Roots) : ∀ {z : List T} {y : List V × Fat}, unTs z = some y → takeCs r y.2 y.1 = some (z, r)
  | [], y, h => by obtain rfl := Option.some.inj h; rfl
  | t :: z, y, h => by
    simp only [unTs] at h
    obtain ⟨x, h1, h⟩ := Option.bind_eq_some_iff.1 h
    obtain ⟨y', h2, rfl⟩ := Option.map_eq_some_iff.1 h
    have ih := takeCs_un r h2
    simp only [takeCs]
    unfold unT at h1
    split at h1
    · obtain rfl := Option.some.inj h1
      simp only [takeC, Option.bind_some, Fat.hd, Fat.tl, T.fat, ih, Option.map_some]
    · obtain rfl := Option.some.inj h1
      simp only [takeC, Option.bind_some, Fat.hd, Fat.tl, T.fat, ih, Option.map_some]
    · obtain rfl := Option.some.inj h1
      simp only [takeC, Option.bind_some, Fat.hd, Fat.tl, T.fat, ih, Option.map_some]
    · cases h1

theorem takeRows_un (r : Roots) {z : List T} {y : List V × Fat} (h : unTs z = some y) : ∀ n, takeRows r y.2 (List.replicate n y.1) = some (List.replicate n z, r)
  | 0 => rfl
  | n + 1 => by
    simp only [List.replicate_succ, takeRows, takeCs_un r h, Option.bind_some, takeRows_un r h n, Option.map_some]

theorem unTs_length : ∀ {z : List T} {y : List V × Fat}, unTs z = some y → y.1.length = z.length
  | [], y, h => by obtain rfl := Option.some.inj h; rfl
  | t :: z, y, h => by
    simp only [unTs] at h
    obtain ⟨x, h1, h⟩ := Option.bind_eq_some_iff.1 h
    obtain ⟨y', h2, rfl⟩ := Option.map_eq_some_iff.1 h
    simp [unTs_length h2]

def mksliceB (P : Program) (es bytes : Nat) (z : List T) (len cap : Opd) : Op → Bool
  | .makeSlice t l c => opdB l len && opdB c cap && match P.underlying t with
    | some (.slice e) => match P.info? e, unTs z with
      | some i, some y => (i.size == es) && (i.bytes == bytes) && (match i.zero with | some v => constL v.cells.toList y.1 | none => false)
      | _, _ => false
    | _ => false
  | _ => false

section
variable {P : Program} {F : Fun} {C : Ctx} {S : St} {W : World} {g : Gh} {tm : Nat → Value} {o : Oper} {d : Nat} {out : Out}

theorem run_valueW {s : Sem Value} {v : Value} {W' : World} (hs : s.run P W = .ok v W') : (do pure (.value (← s)) : Sem Next).run P W = .ok (.value v) W' := by
  rw [Sem.run_bind, hs]; rfl

/-- Rows of values as a new array. -/
theorem rows_new (h : Inv C S W g tm) {fs : Fat} {rows : List (List V)} {es : Nat} (hl : ∀ row ∈ rows, row.length = es) {xs : List Value} (hv : VsOk g (nR S.r) S.b rows.flatten xs) {r1 : Roots} {ts : List (List T)} (ht : takeRows S.r fs rows = some (ts, r1))
    (k : Key) {cells : Array Value} (ty : TypeId) {cap : Nat} (hcap : rows.length ≤ cap) (hsz : cap * es ≤ cells.size) (hx : ∀ (j : Nat) (x : Value), xs[j]? = some x → cells[j]? = some x) :
    ∃ g', Inv C ⟨bar [⟨k, []⟩] S.e, (k, ⟨.own, es, ts⟩) :: r1, S.b⟩ (W.alloc (.cells cells ty)) g' tm ∧ VOk g' (nR ((k, ⟨.own, es, ts⟩) :: r1)) S.b (.sl ⟨k, []⟩ 0 rows.length) (.slice (some ⟨W.heap.size, 0, none⟩) rows.length cap) := by
  have hf := h.f
  have e0 : nR S.r = atF (foD S.r (fun _ => none)) := by rw [← foR_eq]
  rw [e0] at hf hv
  have hxl := hv.length
  have hfl := flatten_len rows hl
  obtain ⟨g1, D1, q1, q2, q3, q4, q5, q6, q7, q8, q9⟩ := takeRows_ok rows fs (split es rows.length xs) S.r r1 (fun _ => none) g ts 0 hf (by simp [split]) (fun i v x h1 h2 => split_ok hl hv i v x h1 h2) ht (fun _ _ _ => rfl)
  have hrows : ∀ row ∈ ts, row.length = es := by
    intro row hr
    obtain ⟨i, hi⟩ := List.getElem?_of_mem hr
    have hil : i < rows.length := by rw [← q2]; exact (List.getElem?_eq_some_iff.1 hi).1
    rw [q3 i row rows[i] hi (List.getElem?_eq_getElem hil)]
    exact hl _ (List.getElem_mem hil)
  have := newBlock h q1 q7 (fun M => q8 _ (by simp [Loc.g])) q9 k hrows kapR (fun _ _ => rfl)
    (fun i j p i' j' p' _ _ e => by
      simp only [kapR, GLoc.app, GLoc.mk.injEq, Prod.mk.injEq, true_and, List.nil_append] at e; exact ⟨e.1.1, e.1.2, e.2⟩)
    (fun i j t ht p m hm => by
      unfold atF foD
      simp only [kapR, GLoc.app, List.nil_append]
      have := q5 i j t ht
      rw [Nat.zero_add] at this
      rw [if_neg (by decide), if_pos trivial, this]
      exact hm) (Grows.refl W) rfl cells ty (by rw [q2]; exact hcap) hsz (fun i j t ht => by
      obtain ⟨hi, hj⟩ := cellAt_row hrows ht
      rw [q2] at hi
      have hle : (i + 1) * es ≤ rows.length * es := Nat.mul_le_mul_right _ hi
      have hs : (i + 1) * es = i * es + es := Nat.succ_mul _ _
      have hidx : i * es + j < xs.length := by omega
      refine ⟨xs[i * es + j], hx _ _ (List.getElem?_eq_getElem hidx), ?_⟩
      have := q4 i j t ((xs.drop (i * es)).take es) xs[i * es + j] ht (by
        unfold split
        rw [List.getElem?_map, List.getElem?_range hi]
        rfl) (by
        rw [List.getElem?_take, if_pos hj, List.getElem?_drop]
        exact List.getElem?_eq_getElem hidx)
      rw [Nat.zero_add] at this
      exact this)
  rw [q2] at this
  exact this

theorem bslice_ok (h : Inv C S W g tm) {fs : Fat} {z : List (List V)} {ps : List (Nat × Opd)} (hp : bsliceB P fs.length z ps o.op = true) (ha : act F d S.e S.r S.b (.bslice fs z ps) = some out) : Step P C S W tm o out := by
  obtain ⟨dst, oop, ty, pos, after, guard⟩ := o
  unfold bsliceB at hp
  split at hp
  · rename_i t len parts e; simp only at e; subst e
    split at hp
    · rename_i el hu
      simp only [Bool.and_eq_true, beq_iff_eq, decide_eq_true_eq] at hp
      obtain ⟨⟨⟨⟨h1, rfl⟩, h2⟩, h3⟩, h4⟩ := hp
      have hzl : ∀ row ∈ z, row.length = fs.length := fun row hr => by
        have := List.all_eq_true.1 h3 row hr
        simp only [Bool.and_eq_true, beq_iff_eq] at this
        exact this.2
      simp only [act] at ha
      obtain ⟨rows, hfill, ha⟩ := Option.bind_eq_some_iff.1 ha
      obtain ⟨⟨ts, r1⟩, ht, ha⟩ := Option.bind_eq_some_iff.1 ha
      obtain ⟨r2, hnew, rfl⟩ := Option.map_eq_some_iff.1 ha
      obtain rfl := newRoot_some hnew
      obtain ⟨f1, f2, f3⟩ := fillS_fill hzl hfill
      have key : ∀ zc : Array Value, VsOk g (nR S.r) S.b z.flatten zc.toList → (∀ cells', Instr.fill (fun i => some (i * fs.length, fs.length)) zc (parts.toList.map fun p => (p.1, evalT tm p.2)) = some cells' →
          (execOp (evalT tm) ⟨dst, .buildSlice t z.length parts, ty, pos, after, guard⟩).run P W = .ok (.value (.slice (some ⟨W.heap.size, 0, none⟩) z.length z.length)) (W.alloc (.cells cells' el))) →
          Step P C S W tm ⟨dst, .buildSlice t z.length parts, ty, pos, after, guard⟩ ⟨.sl ⟨(d, 0), []⟩ 0 rows.length, [], ((d, 0), ⟨.own, fs.length, ts⟩) :: r1, S.b, [⟨(d, 0), []⟩]⟩ := by
        intro zc hzc hrun
        obtain ⟨cells', e1, e2⟩ := fill_ok h _ _ _ _ _ zc h4 hzc f1
        have hsz : cells'.toList.length = rows.flatten.length := e2.length
        have hfl := flatten_len rows f2
        obtain ⟨g', i1, i2⟩ := rows_new h f2 e2 ht (d, 0) (cells := cells') el (Nat.le_refl _) (by rw [← hfl, ← hsz]; simp) (fun j x hx => by simpa using hx)
        refine ⟨_, _, _, g', hrun cells' e1, .inl rfl, ?_, i1⟩
        rw [← f3]
        exact i2
      by_cases h0 : z.length * fs.length = 0
      · have hzf : z.flatten = [] := by
          have := flatten_len z hzl
          rw [h0] at this
          exact List.eq_nil_of_length_eq_zero this
        refine key #[] (by rw [hzf]; rfl) fun cells' hc => ?_
        refine run_valueW ?_
        simp only [Instr.buildSlice, Sem.run_bind, und_run hu, Result.andThen_ok, sizeB_run h1]
        rw [if_neg (by omega)]
        simp only [h0, if_true, Sem.run_pure, Result.andThen_ok, Sem.run_bind]
        rw [show (Array.map (fun x => (#[] : Array Value)[x % (#[] : Array Value).size]!) (Array.range 0)) = #[] from by simp]
        simp only [Array.toList_map] at hc ⊢
        rw [hc]
        rfl
      · have hne : z ≠ [] := by rintro rfl; simp at h0
        obtain ⟨row0, hrow0⟩ := List.exists_mem_of_ne_nil z hne
        have hz0 := List.all_eq_true.1 h3 row0 hrow0
        simp only [Bool.and_eq_true, beq_iff_eq] at hz0
        obtain ⟨it, zv, hi, hz, _⟩ := zeroB_ok hz0.1
        have hall : ∀ row ∈ z, constL zv.cells.toList row = true := fun row hr => by
          have := List.all_eq_true.1 h3 row hr
          simp only [Bool.and_eq_true] at this
          obtain ⟨it', zv', hi', hz', hc'⟩ := zeroB_ok this.1
          rw [hi] at hi'
          obtain rfl := Option.some.inj hi'
          rw [hz] at hz'
          obtain rfl := Option.some.inj hz'
          exact hc'
        refine key (madeCells zv.cells (z.length * fs.length)) (zeros_ok hall hzl) fun cells' hc => ?_
        refine run_valueW ?_
        simp only [Instr.buildSlice, Sem.run_bind, und_run hu, Result.andThen_ok, sizeB_run h1]
        rw [if_neg (by omega), if_neg h0]
        have hzv : (zeroValue el).run P W = .ok zv W := by simp [zeroValue, typeInfo, hi, hz]
        simp only [Sem.run_bind, hzv, Result.andThen_ok, Sem.run_pure, Array.toList_map]
        rw [show (Array.map (fun x => zv.cells[x % zv.cells.size]!) (Array.range (z.length * fs.length))) = madeCells zv.cells (z.length * fs.length) from rfl, hc]
        rfl
    · cases hp
  · cases hp

theorem mkslice_ok (h : Inv C S W g tm) {es bytes : Nat} {z : List T} {l c : Opd} (hp : mksliceB P es bytes z l c o.op = true) (ha : act F d S.e S.r S.b (.mkslice es bytes z l c) = some out) : Step P C S W tm o out := by
  obtain ⟨dst, oop, ty, pos, after, guard⟩ := o
  unfold mksliceB at hp
  split at hp
  · rename_i t l' c' e; simp only at e; subst e
    simp only [Bool.and_eq_true] at hp
    obtain ⟨⟨h1, h2⟩, h3⟩ := hp
    have hl := opd_ok h h1
    have hc := opd_ok h h2
    split at h3
    · rename_i el hu
      split at h3
      · rename_i i y hi hy
        simp only [Bool.and_eq_true, beq_iff_eq] at h3
        obtain ⟨⟨rfl, rfl⟩, h4⟩ := h3
        split at h4
        · rename_i zv hz
          simp only [act] at ha
          split at ha
          · rename_i n cp hvl hvc
            rw [hvl] at hl
            rw [hvc] at hc
            split at ha
            · rename_i hb
              obtain ⟨b1, b2, b3, b5, b4⟩ := hb
              obtain ⟨r2, hnew, rfl⟩ := Option.map_eq_some_iff.1 ha
              obtain rfl := newRoot_some hnew
              have hyl := unTs_length hy
              have hzl : ∀ row ∈ List.replicate n.toNat y.1, row.length = i.size := fun row hr => by
                rw [(List.mem_replicate.1 hr).2, hyl, b4]
              have hzz : ∀ row ∈ List.replicate n.toNat y.1, constL zv.cells.toList row = true := fun row hr => by rw [(List.mem_replicate.1 hr).2]; exact h4
              have hv := zeros_ok (g := g) (fo := nR S.r) (b := S.b) hzz hzl
              rw [List.length_replicate] at hv
              have hnc : n.toNat ≤ cp.toNat := by omega
              have hle : n.toNat * i.size ≤ cp.toNat * i.size := Nat.mul_le_mul_right _ hnc
              have hzs : zv.cells.size = i.size := by
                have := (constL_ok (g := g) (fo := nR S.r) (b := S.b) h4).length
                rw [hyl, b4] at this
                simpa using this
              obtain ⟨g', i1, i2⟩ := rows_new h hzl hv (takeRows_un S.r hy n.toNat) (d, 0) (cells := madeCells zv.cells (cp.toNat * i.size)) el (cap := cp.toNat) (by rw [List.length_replicate]; exact hnc) (by rw [size_madeCells]; exact Nat.le_refl _) (fun j x hx => by
                rw [Array.getElem?_toList] at hx
                have hj : j < n.toNat * i.size := by
                  have := (Array.getElem?_eq_some_iff.1 hx).1
                  rwa [size_madeCells] at this
                obtain ⟨_, d2, _⟩ := divmod hj
                rw [made_get hj (by rw [hzs]; exact d2)] at hx
                rw [made_get (by omega) (by rw [hzs]; exact d2)]
                exact hx)
              rw [List.length_replicate] at i2
              refine ⟨_, _, _, g', run_valueW ?_, .inl rfl, i2, i1⟩
              rw [show evalT tm l' = .int .i64 n from hl.1, show evalT tm c' = .int .i64 cp from hc.1]
              have hmul : (i.bytes : Int) * cp = cp * i.bytes := Int.mul_comm _ _
              exact run_make W t el i zv hu hi hz .i64 .i64 n cp b1 b2 (by omega) (by omega)
            · cases ha
          · cases ha
        · cases h4
      · cases h3
    · cases h3
  · cases hp

end
end Go.Proofs.Ytekfjbejfondnaa.Tom
/-! Operations on memory: append. -/
namespace Go.Proofs.Ytekfjbejfondnaa.Tom
open Go

/-- The names below a detached tree. -/
def kapD (kd : Key) (i j : Nat) : GLoc := ⟨1, kd, [(i, j)]⟩

theorem cell_of_shape {W : World} {q ty sz i : Nat} (h : W.shape? q = some (ty, sz)) (hi : i < sz) : (W.cell? ⟨q, i, none⟩).isSome = true := by
  unfold World.shape? at h
  unfold World.cell?
  cases e : W.heap[q]? with
  | none => rw [e] at h; cases h
  | some o =>
    cases o with
    | cells c el fr =>
      rw [e] at h
      simp only [Option.some.injEq, Prod.mk.injEq] at h
      simp only [Option.isSome_none, Bool.false_eq_true, if_false]
      rw [Array.getElem?_eq_getElem (by omega)]
      rfl
    | _ => rw [e] at h; cases h

/-- The cells of a node's rows, as one list. -/
theorem node_cells {g : Gh} {W : World} {L : GLoc} {n : Node} (h : NodeOk g W L n) : ∃ xs : List Value, xs.length = n.el.length * n.es ∧
    (∀ (k : Nat) (x : Value), xs[k]? = some x → ∃ q o, (g.hd L).a = some ⟨q, o, none⟩ ∧ W.cell? ⟨q, o + k, none⟩ = some x) ∧
    ∀ i j t, cellAt n.el i j = some t → ∃ x, xs[i * n.es + j]? = some x ∧ CellOk g (L.ext i j) t x := by
  obtain ⟨xs, h1, h2⟩ := list_of (Q := fun k x => (∃ q o, (g.hd L).a = some ⟨q, o, none⟩ ∧ W.cell? ⟨q, o + k, none⟩ = some x) ∧ ∀ t, cellAt n.el (k / n.es) (k % n.es) = some t → CellOk g (L.ext (k / n.es) (k % n.es)) t x) (n.el.length * n.es) fun k hk => by
    obtain ⟨d1, d2, d3⟩ := divmod hk
    have hrl := h.rows _ (List.getElem_mem d1)
    have hc := cellAt_some (List.getElem?_eq_getElem d1) (by rw [hrl]; exact d2)
    obtain ⟨q, o, x, e1, e2, e3⟩ := h.cells _ _ _ hc
    refine ⟨x, ⟨q, o, e1, by rw [← e2, Nat.add_assoc, d3]⟩, fun t ht => ?_⟩
    rw [hc] at ht
    exact Option.some.inj ht ▸ e3
  refine ⟨xs, h1, fun k x hx => (h2 k x hx).1, fun i j t ht => ?_⟩
  obtain ⟨hi, hj⟩ := cellAt_row h.rows ht
  have hle : (i + 1) * n.es ≤ n.el.length * n.es := Nat.mul_le_mul_right _ hi
  have hs : (i + 1) * n.es = i * n.es + n.es := Nat.succ_mul _ _
  have hidx : i * n.es + j < xs.length := by omega
  refine ⟨xs[i * n.es + j], List.getElem?_eq_getElem hidx, ?_⟩
  have := (h2 _ _ (List.getElem?_eq_getElem hidx)).2
  have e1 : (i * n.es + j) / n.es = i := by
    rw [Nat.add_comm, Nat.add_mul_div_right _ _ (by omega), Nat.div_eq_of_lt hj, Nat.zero_add]
  have e2 : (i * n.es + j) % n.es = j := by
    rw [Nat.add_comm, Nat.add_mul_mod_self_right, Nat.mod_eq_of_lt hj]
  rw [e1, e2] at this
  exact this t ht

/-- Rows that are at hand for a new array: their cells in memory, their trees detached below kd. -/
structure RowsOk (W : World) (r : Roots) (D : Key → Option Node) (g : Gh) (kd : Key) (es : Nat) (rows : List (List T)) (x : Value) where
  a : Option Addr
  c : Nat
  news : List Value
  hx : x = .slice a rows.length c
  some : rows.length ≠ 0 → a ≠ none
  len : news.length = rows.length * es
  cell : ∀ ad, a = Option.some ad → ∀ (k : Nat) (x : Value), news[k]? = Option.some x → W.cell? (ad.add k) = Option.some x
  ok : ∀ i j t, cellAt rows i j = Option.some t → ∃ x, news[i * es + j]? = Option.some x ∧ CellOk g (kapD kd i j) t x
  tree : ∀ i j t, cellAt rows i j = Option.some t → ∀ p m, (t.node .own).bind (fun n => walk n p) = Option.some m → atF (foD r D) ((kapD kd i j).app p) = Option.some m

theorem plain_cell {el : List (List T)} (h : plain el = true) {i j : Nat} {t : T} (ht : cellAt el i j = some t) : plainT t = true := by
  have hr : ∀ {row : List T} {j : Nat}, plainRow row = true → row[j]? = some t → plainT t = true := by
    intro row
    induction row with
    | nil => intro j _ h; simp at h
    | cons u row ih =>
      intro j h1 h2
      simp only [plainRow, Bool.and_eq_true] at h1
      cases j with
      | zero => obtain rfl := Option.some.inj h2; exact h1.1
      | succ j => exact ih h1.2 h2
  unfold cellAt at ht
  obtain ⟨row, h1, h2⟩ := Option.bind_eq_some_iff.1 ht
  induction el generalizing i with
  | nil => simp at h1
  | cons r el ih =>
    simp only [plain, Bool.and_eq_true] at h
    cases i with
    | zero => obtain rfl := Option.some.inj h1; exact hr h.1 h2
    | succ i => exact ih h.2 (i := i) (by simpa [cellAt] using ht) h1

theorem plain_node {t : T} (h : plainT t = true) (ro : Ro) : t.node ro = none := by
  cases t <;> first | rfl | cases h

theorem CellOk.plain {g g' : Gh} {L L' : GLoc} {t : T} {x : Value} (h : plainT t = true) (hc : CellOk g L t x) : CellOk g' L' t x := by
  cases t <;> first | exact hc | cases h

section
variable {P : Program} {F : Fun} {C : Ctx} {S : St} {W : World} {g : Gh} {tm : Nat → Value} {o : Oper} {d : Nat} {out : Out}

/-- A detached node's rows are at hand. -/
theorem rowsOk_node {r : Roots} {D : Key → Option Node} {b : List (Nat × Nat)} (h : FInv C (atF (foD r D)) b W g) {kd : Key} {es : Nat} {el : List (List T)} (hk : D kd = some ⟨.own, es, el⟩) {x : Value} (hx : CellOk g ⟨1, kd, []⟩ (.arr .own es el) x) :
    Nonempty (RowsOk W r D g kd es el x) := by
  have hn : atF (foD r D) ⟨1, kd, []⟩ = some ⟨.own, es, el⟩ := by
    unfold atF foD
    simp only
    rw [if_neg (by decide), if_pos trivial, hk]
    rfl
  have hok := h.node _ _ hn
  obtain ⟨xs, h1, h2, h3⟩ := node_cells hok
  refine ⟨⟨_, _, xs, hx, fun hl => ?_, h1, fun ad ha k x hk => ?_, h3, fun i j t ht p m hm => ?_⟩⟩
  · obtain ⟨q, o, _, _, ha, _⟩ := hok.mem (by have := hok.len; simp only at this; omega)
    rw [ha]; simp
  · obtain ⟨q, o, e1, e2⟩ := h2 k x hk
    rw [ha] at e1
    obtain rfl := Option.some.inj e1
    rw [add_lit]
    exact e2
  · show atF (foD r D) ((kapD kd i j).app p) = some m
    unfold kapD GLoc.app
    rw [show ([(i, j)] ++ p : Path) = [] ++ (i, j) :: p from rfl, atF_append, hn, Option.bind_some, walk_cons, show cellAt (Node.mk Ro.own es el).el i j = some t from ht]
    exact hm

theorem src_ok {r r1 : Roots} {D : Key → Option Node} {b : List (Nat × Nat)} (h : FInv C (atF (foD r D)) b W g) {v : V} {x : Value} (hv : VOk g (atF (foD r D)) b v x) {rows : List (List T)} (hs : srcRows r v = some (rows, r1)) {es : Nat}
    (hes : ∀ row ∈ rows, row.length = es) (kd : Key) (hk : D kd = none) :
    ∃ g1 D1, FInv C (atF (foD r1 D1)) b W g1 ∧ g1.bx = g.bx ∧ (∀ L, ¬ (L.z = 1 ∧ L.k = kd) → g1.hd L = g.hd L) ∧ Less r r1 ∧ (∀ y, y ≠ kd → D1 y = D y) ∧ Nonempty (RowsOk W r1 D1 g1 kd es rows x) := by
  unfold srcRows at hs
  split at hs
  · obtain ⟨rfl, rfl⟩ := Prod.mk.inj (Option.some.inj hs)
    exact ⟨g, D, h, rfl, fun _ _ => rfl, Less.refl r, fun _ _ => rfl, ⟨⟨none, 0, [], hv, fun e => (e rfl).elim, by simp, by simp, fun i j t ht => by simp [cellAt] at ht, fun i j t ht => by simp [cellAt] at ht⟩⟩⟩
  · rename_i L off len
    obtain ⟨n, hn, hs⟩ := Option.bind_eq_some_iff.1 hs
    split at hs
    · rename_i hl
      split at hs
      · rename_i hpl
        obtain ⟨rfl, rfl⟩ := Prod.mk.inj (Option.some.inj hs)
        refine ⟨g, D, h, rfl, fun _ _ => rfl, Less.refl r, fun _ _ => rfl, ?_⟩
        obtain ⟨a, c, rfl, hv⟩ := hv
        obtain ⟨e1, e2, e3⟩ := hv n hn
        have hcl := length_cut n.el off len hl
        have hok := h.node L.g n hn
        have hne : len ≠ 0 → n.es = es := fun hl0 => by
          have h0 : off < n.el.length := by omega
          have hm : n.el[off] ∈ cut n.el off len := by
            unfold cut
            refine List.mem_of_getElem? (i := 0) ?_
            rw [List.getElem?_take, if_pos (by omega), List.getElem?_drop]
            simp [h0]
          rw [← hes _ hm]
          exact (hok.rows _ (List.getElem_mem h0)).symm
        obtain ⟨xs, h1, h2, h3⟩ := node_cells hok
        have hle : (off + len) * n.es ≤ n.el.length * n.es := Nat.mul_le_mul_right _ hl
        have hs2 : (off + len) * n.es = off * n.es + len * n.es := Nat.add_mul _ _ _
        refine ⟨⟨a, c, (xs.drop (off * n.es)).take (len * n.es), by rw [hcl], fun hl0 => ?_, ?_, fun ad ha k x hk => ?_, fun i j t ht => ?_, fun i j t ht p m hm => ?_⟩⟩
        · obtain ⟨q, o, _, e4⟩ := e3 (by omega)
          rw [e4]; simp
        · rw [List.length_take, List.length_drop, hcl]
          by_cases hl0 : len = 0
          · subst hl0; simp
          · rw [← hne hl0]; omega
        · rw [List.getElem?_take] at hk
          split at hk
          · rename_i hkl
            rw [List.getElem?_drop] at hk
            obtain ⟨q, o, e4, e5⟩ := h2 _ _ hk
            have hl0 : len ≠ 0 := by rintro rfl; simp at hkl
            obtain ⟨q', o', e6, e7⟩ := e3 (by omega)
            rw [e4] at e6
            obtain ⟨rfl, rfl⟩ : q = q' ∧ o = o' := by simpa using e6
            rw [ha] at e7
            obtain rfl := Option.some.inj e7
            rw [add_lit, ← e5]
            simp only [Nat.add_assoc]
          · cases hk
        · obtain ⟨e4, e5⟩ := cellAt_cut_some ht
          obtain ⟨x, e6, e7⟩ := h3 _ _ t e5
          have hj := (cellAt_row hok.rows e5).2
          have hi2 : (i + 1) * n.es ≤ len * n.es := Nat.mul_le_mul_right _ e4
          have hi3 : (i + 1) * n.es = i * n.es + n.es := Nat.succ_mul _ _
          refine ⟨x, ?_, e7.plain (plain_cell hpl ht)⟩
          rw [← hne (by omega), List.getElem?_take, if_pos (by omega), List.getElem?_drop, ← e6]
          congr 1
          rw [Nat.add_mul]; omega
        · rw [plain_node (plain_cell hpl ht)] at hm
          cases hm
      · split at hs
        · rename_i hpl hc
          obtain ⟨hc1, hc2⟩ := hc
          obtain ⟨rfl, rfl⟩ := Prod.mk.inj (Option.some.inj hs)
          have ht : takeC r (.sl L off len) = some (.arr .own n.es (cut n.el off len), delR r L.key) := by
            simp only [takeC, hn, Option.bind_some, if_pos hl, hc1]
            simp only [hc2, List.getLast?_nil]
          obtain ⟨g1, k1, k2, k3, k4, k5, k6⟩ := takeC_ok h hv ht kd hk
          have hD : setK D kd ((T.arr .own n.es (cut n.el off len)).node .own) kd = some ⟨.own, n.es, cut n.el off len⟩ := by simp [setK, node_arr]
          refine ⟨g1, _, k1, k4, k5, k6, fun y hy => by simp only [setK]; rw [if_neg hy], ?_⟩
          have hcl := length_cut n.el off len hl
          have hok := h.node L.g n hn
          obtain ⟨ro⟩ := rowsOk_node k1 hD k2
          by_cases hl0 : len = 0
          · subst hl0
            have hnil : cut n.el off 0 = [] := List.eq_nil_of_length_eq_zero hcl
            refine ⟨⟨ro.a, ro.c, [], ro.hx, ro.some, by rw [hnil]; simp, by simp, fun i j t ht => by rw [hnil] at ht; simp [cellAt] at ht, fun i j t ht => by rw [hnil] at ht; simp [cellAt] at ht⟩⟩
          · have h0 : off < n.el.length := by omega
            have hm : n.el[off] ∈ cut n.el off len := by
              unfold cut
              refine List.mem_of_getElem? (i := 0) ?_
              rw [List.getElem?_take, if_pos (by omega), List.getElem?_drop]
              simp [h0]
            have hee : n.es = es := by
              rw [← hes _ hm]
              exact (hok.rows _ (List.getElem_mem h0)).symm
            rw [← hee]
            exact ⟨ro⟩
        · cases hs
    · cases hs
  · cases hs

end
end Go.Proofs.Ytekfjbejfondnaa.Tom
/-! Operations on memory: append, in place and to a new array. -/
namespace Go.Proofs.Ytekfjbejfondnaa.Tom
open Go

/-- The rows' places do not change when other trees are detached. -/
def RowsOk.trans {W : World} {r r' : Roots} {D D' : Key → Option Node} {g g' : Gh} {kd : Key} {es : Nat} {rows : List (List T)} {x : Value} (h : RowsOk W r D g kd es rows x) (hD : D' kd = D kd) (hg : ∀ L, L.z = 1 → L.k = kd → g'.hd L = g.hd L) :
    RowsOk W r' D' g' kd es rows x :=
  ⟨h.a, h.c, h.news, h.hx, h.some, h.len, h.cell, fun i j t ht => by
    obtain ⟨x, h1, h2⟩ := h.ok i j t ht
    exact ⟨x, h1, h2.same (sameHd_refl t) fun _ _ _ _ => hg _ rfl rfl⟩, fun i j t ht p m hm => by
    have := h.tree i j t ht p m hm
    unfold atF foD kapD GLoc.app at this ⊢
    simp only at this ⊢
    rw [if_neg (by decide), if_pos trivial] at this ⊢
    rw [hD]
    exact this⟩

theorem cellAt_append (a b : List (List T)) (i j : Nat) : cellAt (a ++ b) i j = if i < a.length then cellAt a i j else cellAt b (i - a.length) j := by
  unfold cellAt
  by_cases h : i < a.length
  · rw [if_pos h, List.getElem?_append_left h]
  · rw [if_neg h, List.getElem?_append_right (by omega)]

def kapA (n : Nat) (k1 k2 : Key) (i j : Nat) : GLoc := if i < n then kapD k1 i j else kapD k2 (i - n) j

theorem kapA_inj {n : Nat} {k1 k2 : Key} (hk : k1 ≠ k2) {i j : Nat} {p : Path} {i' j' : Nat} {p' : Path} (h : (kapA n k1 k2 i j).app p = (kapA n k1 k2 i' j').app p') : i = i' ∧ j = j' ∧ p = p' := by
  unfold kapA kapD GLoc.app at h
  split at h <;> split at h <;> simp only [GLoc.mk.injEq, true_and, List.cons_append, List.nil_append, List.cons.injEq, Prod.mk.injEq] at h
  · exact ⟨h.1.1, h.1.2, h.2⟩
  · exact (hk h.1).elim
  · exact (hk h.1.symm).elim
  · exact ⟨by omega, h.1.2, h.2⟩

section
variable {P : Program} {F : Fun} {C : Ctx} {S : St} {W : World} {g : Gh} {tm : Nat → Value} {o : Oper} {d : Nat} {out : Out}

theorem rootV {g1 : Gh} {b : List (Nat × Nat)} {r1 : Roots} {k : Key} {es : Nat} {rows : List (List T)} {κ : Nat → Nat → GLoc} {a : Option Addr} {cap : Nat} (hlen : rows.length ≤ cap) (ha : cap ≠ 0 → ∃ q o, a = some ⟨q, o, none⟩) :
    VOk (graftG g1 k κ ⟨a, cap⟩) (nR ((k, ⟨.own, es, rows⟩) :: r1)) b (.sl ⟨k, []⟩ 0 rows.length) (.slice a rows.length cap) := by
  refine ⟨_, _, rfl, fun n hn => ?_⟩
  have hn' : n = ⟨.own, es, rows⟩ := by
    have : nodeAt ((k, ⟨.own, es, rows⟩) :: r1) ⟨k, []⟩ = some n := hn
    simp only [nodeAt, getR, if_true, Option.bind_some, walk] at this
    exact (Option.some.inj this).symm
  have hh : (graftG g1 k κ ⟨a, cap⟩).hd (Loc.g ⟨k, []⟩) = ⟨a, cap⟩ := by simp [graftG, Loc.g]
  rw [hh]
  refine ⟨hlen, Nat.zero_add _, fun hc => ?_⟩
  obtain ⟨q, o, rfl⟩ := ha hc
  exact ⟨q, o, rfl, by simp⟩

/-- Rows written behind an array's rows, in its own block: all under a new root. -/
theorem appendRoom (h : Inv C S W g tm) {r2 : Roots} {D2 : Key → Option Node} {g2 : Gh} (k2 : FInv C (atF (foD r2 D2)) S.b W g2) (hbx : g2.bx = g.bx) (hg2 : ∀ M : Loc, g2.hd M.g = g.hd M.g) (hle : Less S.r r2) (k : Key)
    {kd kd2 : Key} (hne : kd2 ≠ kd) {es : Nat} {ds ss : List (List T)} (hD : D2 kd2 = some ⟨.own, es, ds⟩) {q o c : Nat} (hhd : g2.hd ⟨1, kd2, []⟩ = ⟨some ⟨q, o, none⟩, c⟩) (hc : c ≠ 0)
    {dx sx : Value} (rd : RowsOk W r2 D2 g2 kd2 es ds dx) (hda : rd.a = some ⟨q, o, none⟩) (rs : RowsOk W r2 D2 g2 kd es ss sx) (hss : ∀ row ∈ ss, row.length = es) (hfit : ds.length + ss.length ≤ c) :
    (∀ j, j < rs.news.length → (W.cell? ⟨q, o + ds.length * es + j, none⟩).isSome = true) ∧ (∀ j, j < rs.news.length → W.frozen? ⟨q, o + ds.length * es + j, none⟩ = false) ∧
    ∃ g', Inv C ⟨bar [⟨k, []⟩] S.e, (k, ⟨.own, es, ds ++ ss⟩) :: r2, S.b⟩ (W.setCells q (o + ds.length * es) rs.news) g' tm ∧
      VOk g' (nR ((k, ⟨.own, es, ds ++ ss⟩) :: r2)) S.b (.sl ⟨k, []⟩ 0 (ds ++ ss).length) (.slice (some ⟨q, o, none⟩) (ds ++ ss).length c) := by
  have hn : atF (foD r2 D2) ⟨1, kd2, []⟩ = some ⟨.own, es, ds⟩ := by
    unfold atF foD
    simp only
    rw [if_neg (by decide), if_pos trivial, hD]
    rfl
  have hok := k2.node _ _ hn
  have hblk : (g2.hd ⟨1, kd2, []⟩).blk = some q := blk_of (by rw [hhd]) (by rw [hhd]; exact hc)
  obtain ⟨q', o', ty, sz, m1, m2, m3, m4⟩ := hok.mem (by rw [hhd]; exact hc)
  rw [hhd] at m1 m3 m4
  obtain ⟨rfl, rfl⟩ : q = q' ∧ o = o' := by simpa using m1
  have hsl := rs.len
  have hdl := rd.len
  have hmul : (ds.length + ss.length) * es ≤ c * es := Nat.mul_le_mul_right _ hfit
  have hadd : (ds.length + ss.length) * es = ds.length * es + ss.length * es := Nat.add_mul _ _ _
  have hcell : ∀ j, j < rs.news.length → (W.cell? ⟨q, o + ds.length * es + j, none⟩).isSome = true := fun j hj => cell_of_shape m2 (by simp only at m3; omega)
  have hrows : ∀ row ∈ ds ++ ss, row.length = es := by
    intro row hr
    rcases List.mem_append.1 hr with hr | hr
    · exact hok.rows row hr
    · exact hss row hr
  have hsrc := k2.src _ _ q o hn rfl (by rw [hhd]; exact hc) (by rw [hhd])
  rw [hhd] at hsrc
  have hfr : Frame' C (W.setCells q (o + ds.length * es) rs.news) := k2.fr.setCells (hsrc.imp id fun hs => ⟨hs.1, fun j hj => by
    have := hs.2 (ds.length * es + j) (by simp only; omega)
    rwa [← Nat.add_assoc] at this⟩)
  have hat : ∀ i j t, cellAt (ds ++ ss) i j = some t → (i < ds.length ∧ cellAt ds i j = some t ∧ kapA ds.length kd2 kd i j = kapD kd2 i j) ∨ (¬ i < ds.length ∧ cellAt ss (i - ds.length) j = some t ∧ kapA ds.length kd2 kd i j = kapD kd (i - ds.length) j) := by
    intro i j t ht
    rw [cellAt_append] at ht
    by_cases hi : i < ds.length
    · rw [if_pos hi] at ht
      exact .inl ⟨hi, ht, by simp [kapA, hi]⟩
    · rw [if_neg hi] at ht
      exact .inr ⟨hi, ht, by simp [kapA, hi]⟩
  have hfin := graftRoot k2 (k := k) (rows := ds ++ ss) (es := es) hrows (kapA ds.length kd2 kd) (fun i j => by unfold kapA; split <;> rfl)
    (fun i j p i' j' p' _ _ e => kapA_inj hne e)
    (fun i j t ht p m hm => by
      rcases hat i j t ht with ⟨_, h1, h2⟩ | ⟨_, h1, h2⟩
      · rw [h2]; exact rd.tree i j t h1 p m hm
      · rw [h2]; exact rs.tree _ j t h1 p m hm)
    (q := q) (W' := W.setCells q (o + ds.length * es) rs.news) (fun q' _ hq' => setCells_heap _ _ _ _ _ hq') (by rw [setCells_size]; exact Nat.le_refl _) hfr
    (a := some ⟨q, o, none⟩) (cap := c) (by rw [List.length_append]; exact hfit)
    (fun _ => ⟨o, ty, sz, rfl, by rw [shape_setCells]; exact m2, m3, fun k hk => by rw [World.frozen?_setCells]; exact m4 rfl k hk⟩)
    (fun i j t ht => by
      obtain ⟨hi, hj⟩ := cellAt_row hrows ht
      rw [List.length_append] at hi
      rcases hat i j t ht with ⟨h0, h1, h2⟩ | ⟨h0, h1, h2⟩
      · obtain ⟨x, e1, e2⟩ := rd.ok i j t h1
        refine ⟨o, x, rfl, ?_, by rw [h2]; exact e2⟩
        have hle : (i + 1) * es ≤ ds.length * es := Nat.mul_le_mul_right _ h0
        have hs2 : (i + 1) * es = i * es + es := Nat.succ_mul _ _
        rw [World.cell?_setCells_out _ _ _ _ _ (fun _ _ => by simp only; omega)]
        have := rd.cell _ hda _ x e1
        rw [add_lit] at this
        rwa [← Nat.add_assoc] at this
      · obtain ⟨x, e1, e2⟩ := rs.ok _ j t h1
        refine ⟨o, x, rfl, ?_, by rw [h2]; exact e2⟩
        have hidx := (List.getElem?_eq_some_iff.1 e1).1
        have e3 := World.cell?_setCells_in q rs.news (o + ds.length * es) W hcell _ hidx
        have e4 : o + ds.length * es + ((i - ds.length) * es + j) = o + i * es + j := by
          have : (i - ds.length) * es + ds.length * es = i * es := by rw [← Nat.add_mul]; congr 1; omega
          omega
        rw [e4] at e3
        rw [e3, (List.getElem?_eq_some_iff.1 e1).2])
    (fun d m hd e => k2.x2 _ _ d m hn hd (by rw [hblk, e]))
    (fun L n hz hL hq => k2.x1 _ L _ n hn hL rfl (fun e => by subst e; cases hz) q hblk hq)
    (fun i j p n hc' hL hq => k2.x1 _ _ _ n hn hL rfl (fun e => by
      unfold kapA kapD GLoc.app at e
      split at e
      · simp at e
      · simp only [GLoc.mk.injEq, List.cons_append] at e
        exact absurd e.2.2 (by simp)) q hblk hq)
    (fun o2 _ e => by
      obtain rfl : o = o2 := by simpa using e
      exact hsrc)
  refine ⟨hcell, fun j hj => ?_, _, h.rooted hbx hg2 hle hfin rfl (fun M hM => ?_) (fun d m hd => ?_), rootV (by rw [List.length_append]; exact hfit) (fun _ => ⟨q, o, rfl⟩)⟩
  · have := m4 rfl (ds.length * es + j) (by simp only; omega)
    rwa [← Nat.add_assoc] at this
  · simp only [graftG]
    rw [if_neg (fun e => hM e.2)]
  · have hne2 : (g.bx d).1 ≠ q := fun e => k2.x2 _ _ d m hn hd (by rw [hblk, hbx, e])
    exact setCells_heap _ _ _ _ _ hne2

/-- No rows at all, no block. -/
theorem appendNone (h : Inv C S W g tm) {r2 : Roots} {D2 : Key → Option Node} {g2 : Gh} (k2 : FInv C (atF (foD r2 D2)) S.b W g2) (hbx : g2.bx = g.bx) (hg2 : ∀ M : Loc, g2.hd M.g = g.hd M.g) (hle : Less S.r r2) (k : Key) (es : Nat) (a : Option Addr) :
    ∃ g', Inv C ⟨bar [⟨k, []⟩] S.e, (k, ⟨.own, es, []⟩) :: r2, S.b⟩ W g' tm ∧ VOk g' (nR ((k, ⟨.own, es, []⟩) :: r2)) S.b (.sl ⟨k, []⟩ 0 0) (.slice a 0 0) := by
  have hfin := graftRoot k2 (k := k) (rows := []) (es := es) (by simp) kapR (fun _ _ => rfl) (fun i j p i' j' p' hc => by simp [cellAt] at hc) (fun i j t ht => by simp [cellAt] at ht)
    (q := W.heap.size) (W' := W) (fun _ _ _ => rfl) (Nat.le_refl _) k2.fr (a := a) (cap := 0) (by simp) (fun e => (e rfl).elim) (fun i j t ht => by simp [cellAt] at ht)
    (fun d m hd e => by have := k2.boxlt d m hd; omega) (fun L n _ hn hq => by have := (k2.node L n hn).lt hq; omega) (fun i j p n hc => by simp [cellAt] at hc) (fun _ e => (e rfl).elim)
  refine ⟨_, h.rooted hbx hg2 hle hfin rfl (fun M hM => ?_) (fun d m hd => rfl), rootV (Nat.le_refl _) (fun e => (e rfl).elim)⟩
  simp only [graftG]
  rw [if_neg (fun e => hM e.2)]

theorem Hd_ext {h : Hd} {a : Option Addr} {c : Nat} (h1 : h.a = a) (h2 : h.cap = c) : h = ⟨a, c⟩ := by
  cases h; cases h1; cases h2; rfl

theorem dst_ok {r1 r2 : Roots} {D : Key → Option Node} {b : List (Nat × Nat)} (h : FInv C (atF (foD r1 D)) b W g) {v : V} {x : Value} (hv : VOk g (atF (foD r1 D)) b v x) {rows : List (List T)} {es : Nat} (hs : dstRows r1 es v = some (rows, r2)) (kd : Key) (hk : D kd = none) :
    ∃ g1 D1, FInv C (atF (foD r2 D1)) b W g1 ∧ g1.bx = g.bx ∧ (∀ L, ¬ (L.z = 1 ∧ L.k = kd) → g1.hd L = g.hd L) ∧ Less r1 r2 ∧ (∀ y, y ≠ kd → D1 y = D y) ∧
      ((rows = [] ∧ ∃ a, x = .slice a 0 0) ∨ ∃ (ro : RowsOk W r2 D1 g1 kd es rows x) (q o : Nat), D1 kd = some ⟨.own, es, rows⟩ ∧ g1.hd ⟨1, kd, []⟩ = ⟨some ⟨q, o, none⟩, ro.c⟩ ∧ ro.c ≠ 0 ∧ ro.a = some ⟨q, o, none⟩ ∧ rows.length ≤ ro.c) := by
  unfold dstRows at hs
  split at hs
  · obtain ⟨rfl, rfl⟩ := Prod.mk.inj (Option.some.inj hs)
    exact ⟨g, D, h, rfl, fun _ _ => rfl, Less.refl _, fun _ _ => rfl, .inl ⟨rfl, none, hv⟩⟩
  · rename_i L off len
    obtain ⟨n, hn, hs1⟩ := Option.bind_eq_some_iff.1 hs
    clear hs
    split at hs1
    · rename_i hc
      obtain ⟨hc1, hc2⟩ := hc
      subst hc2
      obtain ⟨⟨t, r'⟩, ht, hs⟩ := Option.bind_eq_some_iff.1 hs1
      clear hs1
      obtain ⟨g1, k1, k2, k3, k4, k5, k6⟩ := takeC_ok h hv ht kd hk
      have hte : t = .arr .own n.es (cut n.el off len) ∧ off + len ≤ n.el.length := by
        simp only [takeC, hn, Option.bind_some] at ht
        split at ht
        · rename_i hl
          rw [hc1] at ht
          simp only at ht
          split at ht
          · exact ⟨(Prod.mk.inj (Option.some.inj ht)).1.symm, hl⟩
          · obtain ⟨_, _, e⟩ := Option.map_eq_some_iff.1 ht
            exact ⟨(Prod.mk.inj e).1.symm, hl⟩
        · cases ht
      obtain ⟨rfl, hl⟩ := hte
      simp only at hs
      obtain ⟨rfl, rfl⟩ := Prod.mk.inj (Option.some.inj hs)
      have hD : setK D kd ((T.arr .own n.es (cut n.el off len)).node .own) kd = some ⟨.own, n.es, cut n.el off len⟩ := by simp [setK, node_arr]
      refine ⟨g1, _, k1, k4, k5, k6, fun y hy => by simp only [setK]; rw [if_neg hy], ?_⟩
      have hnode : atF (foD r' (setK D kd ((T.arr .own n.es (cut n.el off len)).node .own))) ⟨1, kd, []⟩ = some ⟨.own, n.es, cut n.el off len⟩ := by
        unfold atF foD
        simp only
        rw [if_neg (by decide), if_pos trivial, hD]
        rfl
      have hok := k1.node _ _ hnode
      simp only [CellOk] at k2
      by_cases hcap : (g1.hd ⟨1, kd, []⟩).cap = 0
      · have hlen := hok.len
        rw [hcap] at hlen
        have h0 : (cut n.el off len).length = 0 := by simp only at hlen; omega
        refine .inl ⟨List.eq_nil_of_length_eq_zero h0, (g1.hd ⟨1, kd, []⟩).a, ?_⟩
        rw [k2, h0, hcap]
      · obtain ⟨xs, h1, h2, h3⟩ := node_cells hok
        obtain ⟨q, o, _, _, ha, _⟩ := hok.mem hcap
        refine .inr ⟨⟨_, _, xs, k2, fun _ => by rw [ha]; simp, h1, fun ad had k x hk => ?_, h3, fun i j t ht p m hm => ?_⟩, q, o, hD, Hd_ext ha rfl, hcap, ha, hok.len⟩
        · obtain ⟨q', o', e1, e2⟩ := h2 k x hk
          rw [had] at e1
          obtain rfl := Option.some.inj e1
          rw [add_lit]
          exact e2
        · show atF _ ((kapD kd i j).app p) = some m
          unfold kapD GLoc.app
          rw [show ([(i, j)] ++ p : Path) = [] ++ (i, j) :: p from rfl, atF_append, hnode, Option.bind_some, walk_cons, show cellAt (Node.mk Ro.own n.es (cut n.el off len)).el i j = some t from ht]
          exact hm
    · cases hs1
  · cases hs

def appendB (P : Program) (es bytes : Nat) (x y : Opd) : Op → Bool :=
  callB .append (args2 (fun t u => (t == u) && match P.underlying t with
    | some (.slice e) => match P.info? e with
      | some i => (i.size == es) && (i.bytes == bytes) && (match i.zero with | some z => z.cells.size == es | none => false)
      | none => false
    | _ => false) x y)

theorem firstCells_run {es n : Nat} {a : Option Addr} {c : Nat} {news : List Value} (hl : news.length = n * es) (hs : n ≠ 0 → a ≠ none) (hc : ∀ ad, a = some ad → ∀ (k : Nat) (x : Value), news[k]? = some x → W.cell? (ad.add k) = some x) :
    (Builtin.firstCells es n (.slice a n c)).run P W = .ok news.toArray W := by
  cases a with
  | none =>
    have : n = 0 := Classical.byContradiction fun h => hs h rfl
    subst this
    have : news = [] := List.eq_nil_of_length_eq_zero (by simpa using hl)
    subst this
    exact run_firstCells_none W es 0 0 c
  | some ad => exact run_firstCells_some W es n ad n c news hl (hc ad rfl)

theorem append_run_room {t ty e : TypeId} {i : TypeInfo} (ht : P.underlying t = some (.slice e)) (hi : P.info? e = some i) {q o sLen sCap : Nat} {a : Option Addr} {m c : Nat} {news : List Value} (hl : news.length = m * i.size)
    (hs : m ≠ 0 → a ≠ none) (hc : ∀ ad, a = some ad → ∀ (k : Nat) (x : Value), news[k]? = some x → W.cell? (ad.add k) = some x) (hroom : sLen + m ≤ sCap)
    (h1 : ∀ j, j < news.length → (W.cell? ⟨q, o + sLen * i.size + j, none⟩).isSome = true) (h2 : ∀ j, j < news.length → W.frozen? ⟨q, o + sLen * i.size + j, none⟩ = false) (h3 : ∀ x ∈ news, x.oneCell' = true) :
    (Builtin.append_ #[t, t] ty #[.slice (some ⟨q, o, none⟩) sLen sCap, .slice a m c]).run P W = .ok (.slice (some ⟨q, o, none⟩) (sLen + m) sCap) (W.setCells q (o + sLen * i.size) news) := by
  have hf := firstCells_run (P := P) (W := W) (c := c) hl hs hc
  have hst := run_storeCells_cells (P := P) q (o + sLen * i.size) news 0 W (by simpa using h1) (by simpa using h2) h3
  simp only [Nat.add_zero] at hst
  simp [Builtin.append_, run_underlying ht, sizeOf, typeInfo, hi, Builtin.lenOf, hroom, hf, add_lit, hst]

theorem append_run_none {t ty e : TypeId} {i : TypeInfo} (ht : P.underlying t = some (.slice e)) (hi : P.info? e = some i) {sLen sCap : Nat} {b a : Option Addr} {c : Nat} (hb : b = none → sLen = 0) (hle : sLen ≤ sCap) :
    (Builtin.append_ #[t, t] ty #[.slice b sLen sCap, .slice a 0 c]).run P W = .ok (.slice b sLen sCap) W := by
  have hf := firstCells_run (P := P) (W := W) (es := i.size) (n := 0) (a := a) (c := c) (news := []) (by simp) (fun e => (e rfl).elim) (fun _ _ k x h => by simp at h)
  cases b with
  | none =>
    obtain rfl := hb rfl
    simp [Builtin.append_, run_underlying ht, sizeOf, typeInfo, hi, Builtin.lenOf, hf]
  | some b => simp [Builtin.append_, run_underlying ht, sizeOf, typeInfo, hi, Builtin.lenOf, hf, hle, storeCells]

theorem live_one {g : Gh} {L : GLoc} {t : T} {x : Value} (h : CellOk g L t x) (hl : t.live = true) : x.oneCell' = true := by
  cases t with
  | val u => rw [h.1]; exact h.2
  | nil => simp only [CellOk] at h; rw [h]; rfl
  | arr r e l => simp only [CellOk] at h; rw [h]; rfl
  | _ => cases hl

theorem append_ok (h : Inv C S W g tm) {es bytes : Nat} {x y : Opd} (hp : appendB P es bytes x y o.op = true) (ha : act F d S.e S.r S.b (.append es bytes x y) = some out) : Step P C S W tm o out := by
  obtain ⟨dst, oop, ty, pos, after, guard⟩ := o
  obtain ⟨x', y', t, u, e1, h0, h5, h6⟩ := call2 hp
  simp only at e1
  subst e1
  simp only [Bool.and_eq_true, beq_iff_eq] at h0
  obtain ⟨rfl, h0⟩ := h0
  have hx := opd_ok h h5
  have hy := opd_ok h h6
  split at h0
  · rename_i el hu
    split at h0
    · rename_i i hi
      simp only [Bool.and_eq_true, beq_iff_eq] at h0
      obtain ⟨⟨rfl, rfl⟩, h7⟩ := h0
      split at h7
      · rename_i z hz
        have hzs : z.cells.size = i.size := by simpa using h7
        simp only [act] at ha
        obtain ⟨⟨ss, r1⟩, hss, ha⟩ := Option.bind_eq_some_iff.1 ha
        obtain ⟨⟨ds, r2⟩, hds, ha⟩ := Option.bind_eq_some_iff.1 ha
        split at ha
        · rename_i hb
          obtain ⟨b1, b2, b3⟩ := hb
          simp only at b1 b2 b3 hds
          obtain ⟨r3, hnew, rfl⟩ := Option.map_eq_some_iff.1 ha
          obtain rfl := newRoot_some hnew
          have hssl : ∀ row ∈ ss, row.length = i.size := fun row hr => by
            have := List.all_eq_true.1 b3 row hr
            simp only [Bool.and_eq_true, beq_iff_eq] at this
            exact this.1
          have hsl : ∀ i j t, cellAt ss i j = some t → t.live = true := fun a b t ht => by
            unfold cellAt at ht
            obtain ⟨row, q1, q2⟩ := Option.bind_eq_some_iff.1 ht
            have := List.all_eq_true.1 b3 row (List.mem_of_getElem? q1)
            simp only [Bool.and_eq_true] at this
            exact List.all_eq_true.1 this.2 t (List.mem_of_getElem? q2)
          have e0 : nR S.r = atF (foD S.r (fun _ => none)) := by rw [← foR_eq]
          have hf := h.f
          rw [e0] at hf hx hy
          obtain ⟨g1, D1, k1, k2, k3, k4, k5, ⟨rs⟩⟩ := src_ok hf hy hss hssl (0, 0) rfl
          have hx1 : VOk g1 (atF (foD r1 D1)) S.b (x.ev S.e) (evalT tm x') := hx.same (fun L n' hn => by
            obtain ⟨m1, f1, f2⟩ := k4 L n' hn
            exact ⟨m1, f1, f2.es, k3 _ (by simp [Loc.g])⟩) (fun d m hd => ⟨m, hd, by rw [k2]⟩)
          obtain ⟨g2, D2, q1, q2, q3, q4, q5, q6⟩ := dst_ok k1 hx1 hds (0, 1) (by rw [k5 _ (by decide)])
          have hbx : g2.bx = g.bx := q2.trans k2
          have hg2 : ∀ M : Loc, g2.hd M.g = g.hd M.g := fun M => (q3 _ (by simp [Loc.g])).trans (k3 _ (by simp [Loc.g]))
          have hle : Less S.r r2 := k4.trans q4
          have rs2 : RowsOk W r2 D2 g2 (0, 0) i.size ss (evalT tm y') := rs.trans (q5 _ (by decide)) (fun L hz hk => q3 L (fun e => by rw [hk] at e; exact absurd e.2 (by decide)))
          have hone : ∀ v ∈ rs2.news, v.oneCell' = true := fun v hv => by
            obtain ⟨k, hk⟩ := List.getElem?_of_mem hv
            have hkl := (List.getElem?_eq_some_iff.1 hk).1
            rw [rs2.len] at hkl
            obtain ⟨d1, d2, d3⟩ := divmod hkl
            have hc := cellAt_some (List.getElem?_eq_getElem d1) (by rw [hssl _ (List.getElem_mem d1)]; exact d2)
            obtain ⟨w, w1, w2⟩ := rs2.ok _ _ _ hc
            rw [d3, hk] at w1
            obtain rfl := Option.some.inj w1
            exact live_one w2 (hsl _ _ _ hc)
          -- the run of the call
          have hexec : ∀ {vx vy v W'}, evalT tm x' = vx → evalT tm y' = vy → (Builtin.append_ #[t, t] ty #[vx, vy]).run P W = .ok v W' →
              (execOp (evalT tm) ⟨dst, .call ⟨.builtin .append, #[x', y'], #[t, t]⟩, ty, pos, after, guard⟩).run P W = .ok (.value v) W' := by
            intro vx vy v W' e1 e2 hr
            simp [execOp, resolve, invoke, builtin, e1, e2, hr]
          by_cases hs0 : ss.length = 0
          · have hsn : ss = [] := List.eq_nil_of_length_eq_zero hs0
            subst hsn
            have hnews : rs2.news = [] := List.eq_nil_of_length_eq_zero (by rw [rs2.len]; simp)
            rcases q6 with ⟨rfl, a, hxv⟩ | ⟨rd, q, oo, w1, w2, w3, w4, w5⟩
            · obtain ⟨g', i1, i2⟩ := appendNone h q1 hbx hg2 hle (d, 0) i.size a
              exact ⟨_, _, _, g', hexec hxv rs2.hx (append_run_none hu hi (fun _ => rfl) (Nat.le_refl _)), .inl rfl, i2, i1⟩
            · obtain ⟨_, _, g', i1, i2⟩ := appendRoom h q1 hbx hg2 hle (d, 0) (kd := (0, 0)) (kd2 := (0, 1)) (by decide) w1 w2 w3 rd w4 rs2 hssl (by simpa using w5)
              rw [hnews] at i1
              rw [List.length_append] at i2
              have hxd : evalT tm x' = .slice (some ⟨q, oo, none⟩) ds.length rd.c := by rw [← w4]; exact rd.hx
              exact ⟨_, _, _, g', hexec hxd rs2.hx (append_run_none hu hi (fun e => by cases e) w5), .inl rfl, i2, i1⟩
          · have hsa := rs2.some hs0
            obtain ⟨sa, hsa⟩ := Option.ne_none_iff_exists'.1 hsa
            have hxs : evalT tm y' = .slice (some sa) ss.length rs2.c := by rw [← hsa]; exact rs2.hx
            -- to a new array
            have grow : ∀ (olds : List Value) (sCap : Nat) {vx vy : Value}, evalT tm x' = vx → evalT tm y' = vy → olds.length = ds.length * i.size → sCap < ds.length + ss.length → (∀ i' j t, cellAt ds i' j = some t → ∃ x, olds[i' * i.size + j]? = some x ∧ CellOk g2 (kapD (0, 1) i' j) t x) →
                (∀ i' j t, cellAt ds i' j = some t → ∀ p m, (t.node .own).bind (fun n => walk n p) = some m → atF (foD r2 D2) ((kapD (0, 1) i' j).app p) = some m) → (∀ row ∈ ds, row.length = i.size) →
                (Builtin.append_ #[t, t] ty #[vx, vy]).run P W = .ok (.slice (some ⟨W.heap.size, 0, none⟩) (ds.length + ss.length) (grownCap W (ds.length + ss.length) sCap el))
                  (W.drew.alloc (.cells (olds.toArray ++ rs2.news.toArray ++ Builtin.zeroCells z.cells (grownCap W (ds.length + ss.length) sCap el - (ds.length + ss.length))) el)) →
                Step P C S W tm ⟨dst, .call ⟨.builtin .append, #[x', y'], #[t, t]⟩, ty, pos, after, guard⟩ ⟨.sl ⟨(d, 0), []⟩ 0 (ds.length + ss.length), [], ((d, 0), ⟨.own, i.size, ds ++ ss⟩) :: r2, S.b, [⟨(d, 0), []⟩]⟩ := by
              intro olds sCap vx vy ex ey ho hlt hoc hot hdsl hr
              have hge := grownCap_ge W (ds.length + ss.length) sCap el
              have hrows : ∀ row ∈ ds ++ ss, row.length = i.size := by
                intro row hr
                rcases List.mem_append.1 hr with hr | hr
                · exact hdsl row hr
                · exact hssl row hr
              have hat : ∀ i' j t, cellAt (ds ++ ss) i' j = some t → (i' < ds.length ∧ cellAt ds i' j = some t ∧ kapA ds.length (0, 1) (0, 0) i' j = kapD (0, 1) i' j) ∨ (¬ i' < ds.length ∧ cellAt ss (i' - ds.length) j = some t ∧ kapA ds.length (0, 1) (0, 0) i' j = kapD (0, 0) (i' - ds.length) j) := by
                intro i' j t ht
                rw [cellAt_append] at ht
                by_cases hi : i' < ds.length
                · rw [if_pos hi] at ht
                  exact .inl ⟨hi, ht, by simp [kapA, hi]⟩
                · rw [if_neg hi] at ht
                  exact .inr ⟨hi, ht, by simp [kapA, hi]⟩
              have hadd : (ds.length + ss.length) * i.size = ds.length * i.size + ss.length * i.size := Nat.add_mul _ _ _
              have hnl := rs2.len
              have := newBlock h q1 hbx hg2 hle (d, 0) hrows (kapA ds.length (0, 1) (0, 0)) (fun i j => by unfold kapA; split <;> rfl) (fun i j p i' j' p' _ _ e => kapA_inj (by decide) e)
                (fun i' j t ht p m hm => by
                  rcases hat i' j t ht with ⟨_, h1, h2⟩ | ⟨_, h1, h2⟩
                  · rw [h2]; exact hot i' j t h1 p m hm
                  · rw [h2]; exact rs2.tree _ j t h1 p m hm)
                (Grows.drew W) rfl (olds.toArray ++ rs2.news.toArray ++ Builtin.zeroCells z.cells (grownCap W (ds.length + ss.length) sCap el - (ds.length + ss.length))) el (cap := grownCap W (ds.length + ss.length) sCap el) (by rw [List.length_append]; exact hge)
                (by
                  simp only [Array.size_append, List.size_toArray, size_zeroCells, hzs, ho, hnl, ← Nat.add_mul]
                  exact Nat.mul_le_mul_right _ (by omega))
                (fun i' j t ht => by
                  obtain ⟨hi, hj⟩ := cellAt_row hrows ht
                  rw [List.length_append] at hi
                  rcases hat i' j t ht with ⟨h0, h1, h2⟩ | ⟨h0, h1, h2⟩
                  · obtain ⟨x, w1, w2⟩ := hoc i' j t h1
                    refine ⟨x, ?_, by rw [h2]; exact w2⟩
                    have hidx := (List.getElem?_eq_some_iff.1 w1).1
                    rw [Array.append_assoc, Array.getElem?_append_left (by simpa using hidx)]
                    simpa using w1
                  · obtain ⟨x, w1, w2⟩ := rs2.ok _ j t h1
                    refine ⟨x, ?_, by rw [h2]; exact w2⟩
                    have hidx := (List.getElem?_eq_some_iff.1 w1).1
                    have e4 : i' * i.size + j = ds.length * i.size + ((i' - ds.length) * i.size + j) := by
                      have : (i' - ds.length) * i.size + ds.length * i.size = i' * i.size := by rw [← Nat.add_mul]; congr 1; omega
                      omega
                    rw [e4, Array.append_assoc, Array.getElem?_append_right (by simp; omega), Array.getElem?_append_left (by simp; omega)]
                    simp only [List.size_toArray, ho, List.getElem?_toArray, Nat.add_sub_cancel_left]
                    exact w1)
              obtain ⟨g', i1, i2⟩ := this
              refine ⟨_, _, _, g', hexec ex ey hr, .inl rfl, ?_, i1⟩
              rw [List.length_append] at i2
              exact i2
            have hcellS := fun j u hu => rs2.cell sa hsa j u hu
            rcases q6 with ⟨rfl, a, hxv⟩ | ⟨rd, q, oo, w1, w2, w3, w4, w5⟩
            · cases a with
              | none =>
                have hr := run_append_nil (P := P) W t ty el i z hu hi hz sa ss.length rs2.c rs2.news rs2.len hcellS (by omega) (by simp only [List.length_nil] at b2; omega) (by have b4 := b1; simp only [List.length_nil, Nat.zero_add] at b4; omega)
                refine grow [] 0 hxv hxs (by simp) (by simp only [List.length_nil]; omega) (fun i' j t ht => by simp [cellAt] at ht) (fun i' j t ht => by simp [cellAt] at ht) (by simp) ?_
                simp only [List.length_nil, Nat.zero_add, Array.empty_append]
                exact hr
              | some b =>
                have hr := run_append_grow (P := P) W t ty el i z hu hi hz b 0 0 [] (by simp) (by simp) sa ss.length rs2.c rs2.news rs2.len hcellS (by omega) (by simp only [List.length_nil] at b2; omega)
                  (growslice_fits (by omega) (by simpa using b1))
                refine grow [] 0 hxv hxs (by simp) (by simp only [List.length_nil]; omega) (fun i' j t ht => by simp [cellAt] at ht) (fun i' j t ht => by simp [cellAt] at ht) (by simp) ?_
                simp only [List.length_nil]
                exact hr
            · by_cases hroom : ds.length + ss.length ≤ rd.c
              · obtain ⟨c1, c2, g', i1, i2⟩ := appendRoom h q1 hbx hg2 hle (d, 0) (kd := (0, 0)) (kd2 := (0, 1)) (by decide) w1 w2 w3 rd w4 rs2 hssl hroom
                rw [List.length_append] at i2
                have hxd : evalT tm x' = .slice (some ⟨q, oo, none⟩) ds.length rd.c := by rw [← w4]; exact rd.hx
                exact ⟨_, _, _, g', hexec hxd rs2.hx (append_run_room hu hi rs2.len rs2.some rs2.cell hroom c1 c2 hone), .inl rfl, i2, i1⟩
              · have hr := run_append_grow (P := P) W t ty el i z hu hi hz ⟨q, oo, none⟩ ds.length rd.c rd.news rd.len (fun j u hu => rd.cell _ w4 j u hu) sa ss.length rs2.c rs2.news rs2.len hcellS (by omega) (by omega)
                  (growslice_fits (by omega) b1)
                have hn : atF (foD r2 D2) ⟨1, (0, 1), []⟩ = some ⟨.own, i.size, ds⟩ := by
                  unfold atF foD
                  simp only
                  rw [if_neg (by decide), if_pos trivial, w1]
                  rfl
                have hxd : evalT tm x' = .slice (some ⟨q, oo, none⟩) ds.length rd.c := by rw [← w4]; exact rd.hx
                exact grow rd.news rd.c hxd hxs rd.len (by omega) rd.ok rd.tree (fun row hrow => (q1.node _ _ hn).rows row hrow) hr
        · cases ha
      · cases h7
    · cases h0
  · cases h0

end
end Go.Proofs.Ytekfjbejfondnaa.Tom
