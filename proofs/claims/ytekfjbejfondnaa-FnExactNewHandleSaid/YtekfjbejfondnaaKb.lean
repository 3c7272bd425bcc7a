/- How the machine's states stand to the model's memory: forests of nodes, their headers (a ghost), who owns which block; what is kept by renaming, by new blocks, by draws. Changing a tree at a path: which nodes are then where. Taking a tree out of its place: it stands then detached. A node that is new, or newly written, in a forest. Taking several cells' trees. Detached trees set into a new root, or into cells of an array. Operations: what the model's run of one does, beside what the machine does. First: those that only reckon. -/
import Derived.Test.YtekfjbejfondnaaKa
import Derived.Laws.IdiomCopy
import Derived.Laws.Cells
import Derived.Laws.World
import Derived.Laws.Sem
import Derived.Laws.BitsAll
/-! How the machine's states stand to the model's memory: forests of nodes, their headers (a ghost), who owns which block; what is kept by renaming, by new blocks, by draws. -/
namespace Go.Proofs.Ytekfjbejfondnaa.Tom
open Go

/-- A place in a forest: z parts the roots of a frame (0) from detached trees (1). -/
structure GLoc where
  z : Nat
  k : Key
  p : Path
  deriving DecidableEq

def GLoc.ext (L : GLoc) (i j : Nat) : GLoc := ⟨L.z, L.k, L.p ++ [(i, j)]⟩
def Loc.g (L : Loc) : GLoc := ⟨0, L.key, L.path⟩

/-- A slice's header but for its length. -/
structure Hd where
  a : Option Addr
  cap : Nat

structure Gh where
  hd : GLoc → Hd
  bx : Nat → Nat × Nat

abbrev Forest := Nat → Key → Option Node
/-- The nodes there are, by their places. -/
abbrev NSet := GLoc → Option Node

def atF (fo : Forest) (L : GLoc) : Option Node := (fo L.z L.k).bind fun n => walk n L.p

def foR (r : Roots) : Forest := fun z k => if z = 0 then getR r k else none

theorem atF_foR (r : Roots) (L : Loc) : atF (foR r) L.g = nodeAt r L := rfl

/-- The block of a header that leads to cells. -/
def Hd.blk (h : Hd) : Option Nat := if h.cap = 0 then none else h.a.map (·.block)

def CellOk (g : Gh) (L : GLoc) : T → Value → Prop
  | .val u, x => x = u ∧ u.oneCell' = true
  | .nil, x => x = .slice none 0 0
  | .arr _ _ el, x => x = .slice (g.hd L).a el.length (g.hd L).cap
  | _, _ => True

structure NodeOk (g : Gh) (W : World) (L : GLoc) (n : Node) : Prop where
  len : n.el.length ≤ (g.hd L).cap
  mem : (g.hd L).cap ≠ 0 → ∃ q o ty sz, (g.hd L).a = some ⟨q, o, none⟩ ∧ W.shape? q = some (ty, sz) ∧ o + (g.hd L).cap * n.es ≤ sz ∧
    (n.ro = .own → ∀ k, k < (g.hd L).cap * n.es → W.frozen? ⟨q, o + k, none⟩ = false)
  rows : ∀ row ∈ n.el, row.length = n.es
  cells : ∀ i j t, cellAt n.el i j = some t → ∃ q o x, (g.hd L).a = some ⟨q, o, none⟩ ∧ W.cell? ⟨q, o + i * n.es + j, none⟩ = some x ∧ CellOk g (L.ext i j) t x

mutual
def VOk (g : Gh) (fo : NSet) (b : List (Nat × Nat)) : V → Value → Prop
  | .val u, x => x = u ∧ u.oneCell' = true
  | .nil, x => x = .slice none 0 0
  | .sl L off len, x => ∃ a c, x = .slice a len c ∧ ∀ n, fo L.g = some n → len ≤ c ∧ off + c = (g.hd L.g).cap ∧
      (c ≠ 0 → ∃ q o, (g.hd L.g).a = some ⟨q, o, none⟩ ∧ a = some ⟨q, o + off * n.es, none⟩)
  | .pt L i c, x => ∃ a, x = .pointer (some a) ∧ ∀ n, fo L.g = some n → ∃ q o, (g.hd L.g).a = some ⟨q, o, none⟩ ∧ a = ⟨q, o + i * n.es + c, none⟩
  | .bx d c, x => ∃ a, x = .pointer (some a) ∧ ∀ m, getB b d = some m → a = ⟨(g.bx d).1, (g.bx d).2 + c, none⟩
  | .agg l, x => ∃ xs : List Value, x = .agg xs.toArray ∧ VsOk g fo b l xs
  | .tup l, x => ∃ xs : List Value, x = .tuple xs.toArray ∧ VsOk g fo b l xs
  | .fn f l, x => ∃ xs : List Value, x = .func (.func f) #[] xs.toArray ∧ VsOk g fo b l xs
  | .un, _ => True
def VsOk (g : Gh) (fo : NSet) (b : List (Nat × Nat)) : List V → List Value → Prop
  | [], xs => xs = []
  | v :: l, xs => ∃ x ys, xs = x :: ys ∧ VOk g fo b v x ∧ VsOk g fo b l ys
end

/-- Where a call began: its world, below which block nothing is ever written, which blocks and which of their cells it was handed. -/
structure Ctx where
  W0 : World
  N0 : Nat
  ob : Nat → Prop
  own : Nat → Nat → Prop

structure Frame' (C : Ctx) (W : World) : Prop where
  os : W.os = C.W0.os
  tape : W.tape = C.W0.tape
  output : W.output = C.W0.output
  size : C.W0.heap.size ≤ W.heap.size
  block : ∀ q, q < C.W0.heap.size → ¬ C.ob q → W.heap[q]? = C.W0.heap[q]?
  cell : ∀ q i, q < C.W0.heap.size → ¬ C.own q i → W.cell? ⟨q, i, none⟩ = C.W0.cell? ⟨q, i, none⟩
  shape : ∀ q, q < C.W0.heap.size → W.shape? q = C.W0.shape? q
  frozen : ∀ q i, q < C.W0.heap.size → W.frozen? ⟨q, i, none⟩ = C.W0.frozen? ⟨q, i, none⟩

structure FInv (C : Ctx) (fo : NSet) (b : List (Nat × Nat)) (W : World) (g : Gh) : Prop where
  node : ∀ L n, fo L = some n → NodeOk g W L n
  box : ∀ d m c, getB b d = some m → c < m → (∃ x, W.cell? ⟨(g.bx d).1, (g.bx d).2 + c, none⟩ = some x) ∧ W.frozen? ⟨(g.bx d).1, (g.bx d).2 + c, none⟩ = false
  boxlt : ∀ d m, getB b d = some m → (g.bx d).1 < W.heap.size
  x1 : ∀ L L' n n', fo L = some n → fo L' = some n' → n.ro = .own → L ≠ L' → ∀ q, (g.hd L).blk = some q → (g.hd L').blk ≠ some q
  x2 : ∀ L n d m, fo L = some n → getB b d = some m → (g.hd L).blk ≠ some (g.bx d).1
  x3 : ∀ d d' m m', getB b d = some m → getB b d' = some m' → d ≠ d' → (g.bx d).1 ≠ (g.bx d').1
  src : ∀ L n q o, fo L = some n → n.ro = .own → (g.hd L).cap ≠ 0 → (g.hd L).a = some ⟨q, o, none⟩ → C.W0.heap.size ≤ q ∨ (C.ob q ∧ ∀ k, k < (g.hd L).cap * n.es → C.own q (o + k))
  srb : ∀ d m, getB b d = some m → C.W0.heap.size ≤ (g.bx d).1 ∨ (C.ob (g.bx d).1 ∧ ∀ k, k < m → C.own (g.bx d).1 ((g.bx d).2 + k))
  lent : ∀ L n q, fo L = some n → n.ro = .lent → (g.hd L).blk = some q → q < C.W0.heap.size ∧ ¬ C.ob q
  stat : ∀ L n q, fo L = some n → n.ro = .stat → (g.hd L).blk = some q → q < C.N0
  fr : Frame' C W
  n0 : C.N0 ≤ C.W0.heap.size
  own : ∀ q, C.ob q → C.N0 ≤ q

theorem atF_nil {fo : Forest} {z : Nat} {k : Key} : atF fo ⟨z, k, []⟩ = fo z k := by
  unfold atF
  cases fo z k <;> rfl

theorem shape_lt {W : World} {q : Nat} {x : TypeId × Nat} (h : W.shape? q = some x) : q < W.heap.size := by
  unfold World.shape? at h
  cases e : W.heap[q]? with
  | none => rw [e] at h; cases h
  | some o => exact (Array.getElem?_eq_some_iff.1 e).1

theorem NodeOk.lt {g : Gh} {W : World} {L : GLoc} {n : Node} (h : NodeOk g W L n) {q : Nat} (hq : (g.hd L).blk = some q) : q < W.heap.size := by
  unfold Hd.blk at hq
  split at hq
  · cases hq
  · rename_i hc
    obtain ⟨q', o, ty, sz, ha, hs, _⟩ := h.mem hc
    rw [ha] at hq
    obtain rfl : q' = q := by simpa using hq
    exact shape_lt hs

theorem blk_of {h : Hd} {q o : Nat} (ha : h.a = some ⟨q, o, none⟩) (hc : h.cap ≠ 0) : h.blk = some q := by
  unfold Hd.blk
  rw [if_neg hc, ha]
  rfl

/-- A node's memory asks only for its cells, its block's shape and marks. -/
theorem NodeOk.world {g : Gh} {W W' : World} {L : GLoc} {n : Node} (h : NodeOk g W L n)
    (hs : ∀ q, (g.hd L).blk = some q → W'.shape? q = W.shape? q ∧ ∀ i, W'.cell? ⟨q, i, none⟩ = W.cell? ⟨q, i, none⟩ ∧ W'.frozen? ⟨q, i, none⟩ = W.frozen? ⟨q, i, none⟩) : NodeOk g W' L n := by
  refine ⟨h.len, fun hc => ?_, h.rows, fun i j t ht => ?_⟩
  · obtain ⟨q, o, ty, sz, ha, h1, h2, h3⟩ := h.mem hc
    have hq := hs q (blk_of ha hc)
    exact ⟨q, o, ty, sz, ha, hq.1.trans h1, h2, fun hr k hk => (hq.2 _).2.trans (h3 hr k hk)⟩
  · obtain ⟨q, o, x, ha, h1, h2⟩ := h.cells i j t ht
    have hc : (g.hd L).cap ≠ 0 := by
      have := h.len
      unfold cellAt at ht
      cases e : n.el[i]? with
      | none => rw [e] at ht; cases ht
      | some row => have := (List.getElem?_eq_some_iff.1 e).1; omega
    exact ⟨q, o, x, ha, ((hs q (blk_of ha hc)).2 _).1.trans h1, h2⟩

theorem heap_alloc_lt (W : World) (o : Obj) {q : Nat} (h : q < W.heap.size) : (W.alloc o).heap[q]? = W.heap[q]? := by
  show (W.heap.push o)[q]? = _
  rw [Array.getElem?_push, if_neg (by omega)]

theorem shape_of_heap {W W' : World} {q : Nat} (h : W'.heap[q]? = W.heap[q]?) : W'.shape? q = W.shape? q := by unfold World.shape?; rw [h]
theorem cell_of_heap {W W' : World} {q i : Nat} (h : W'.heap[q]? = W.heap[q]?) : W'.cell? ⟨q, i, none⟩ = W.cell? ⟨q, i, none⟩ := by unfold World.cell?; simp only [h]
theorem frozen_of_heap {W W' : World} {q i : Nat} (h : W'.heap[q]? = W.heap[q]?) : W'.frozen? ⟨q, i, none⟩ = W.frozen? ⟨q, i, none⟩ := by unfold World.frozen?; simp only [h]

/-- What leaves all old blocks as they were. -/
structure Grows (W W' : World) : Prop where
  os : W'.os = W.os
  tape : W'.tape = W.tape
  output : W'.output = W.output
  size : W.heap.size ≤ W'.heap.size
  block : ∀ q, q < W.heap.size → W'.heap[q]? = W.heap[q]?

theorem Grows.refl (W : World) : Grows W W := ⟨rfl, rfl, rfl, Nat.le_refl _, fun _ _ => rfl⟩
theorem Grows.alloc (W : World) (o : Obj) : Grows W (W.alloc o) := ⟨rfl, rfl, rfl, by simp, fun _ h => heap_alloc_lt W o h⟩
theorem Grows.drew (W : World) : Grows W W.drew := ⟨rfl, rfl, rfl, Nat.le_refl _, fun _ _ => rfl⟩
theorem Grows.trans {a b c : World} (h : Grows a b) (k : Grows b c) : Grows a c :=
  ⟨k.os.trans h.os, k.tape.trans h.tape, k.output.trans h.output, Nat.le_trans h.size k.size, fun q hq => (k.block q (Nat.lt_of_lt_of_le hq h.size)).trans (h.block q hq)⟩

theorem Frame'.grows {C : Ctx} {W W' : World} (h : Frame' C W) (k : Grows W W') : Frame' C W' := by
  have lt : ∀ q, q < C.W0.heap.size → W'.heap[q]? = W.heap[q]? := fun q hq => k.block q (Nat.lt_of_lt_of_le hq h.size)
  exact ⟨k.os.trans h.os, k.tape.trans h.tape, k.output.trans h.output, Nat.le_trans h.size k.size,
    fun q hq ho => (lt q hq).trans (h.block q hq ho), fun q i hq ho => (cell_of_heap (lt q hq)).trans (h.cell q i hq ho),
    fun q hq => (shape_of_heap (lt q hq)).trans (h.shape q hq), fun q i hq => (frozen_of_heap (lt q hq)).trans (h.frozen q i hq)⟩

theorem FInv.grows {C : Ctx} {fo : NSet} {b : List (Nat × Nat)} {W W' : World} {g : Gh} (h : FInv C fo b W g) (k : Grows W W') : FInv C fo b W' g := by
  refine ⟨fun L n hn => (h.node L n hn).world fun q hq => ?_, fun d m c hd hc => ?_, fun d m hd => Nat.lt_of_lt_of_le (h.boxlt d m hd) k.size, h.x1, h.x2, h.x3, h.src, h.srb, h.lent, h.stat, h.fr.grows k, h.n0, h.own⟩
  · have e := k.block q ((h.node L n hn).lt hq)
    exact ⟨shape_of_heap e, fun i => ⟨cell_of_heap e, frozen_of_heap e⟩⟩
  · have e := k.block _ (h.boxlt d m hd)
    obtain ⟨⟨x, hx⟩, hf⟩ := h.box d m c hd hc
    exact ⟨⟨x, (cell_of_heap e).trans hx⟩, (frozen_of_heap e).trans hf⟩

/-- Two cells with one header. -/
def sameHd : T → T → Prop
  | .val u, t => t = .val u
  | .nil, t => t = .nil
  | .arr _ _ el, t => ∃ ro es el', t = .arr ro es el' ∧ el'.length = el.length
  | _, _ => True

/-- A node of a new forest is a part of one of an old forest, from its row s on. -/
structure Sim (g g' : Gh) (L M : GLoc) (s : Nat) (n' n : Node) : Prop where
  es : n'.es = n.es
  cap : (g'.hd L).cap + s = (g.hd M).cap
  a : (g'.hd L).cap ≠ 0 → ∃ q o, (g.hd M).a = some ⟨q, o, none⟩ ∧ (g'.hd L).a = some ⟨q, o + s * n.es, none⟩
  len : n'.el.length ≤ (g'.hd L).cap
  rows : ∀ row ∈ n'.el, row.length = n'.es
  cells : ∀ i j t', cellAt n'.el i j = some t' → ∃ t, cellAt n.el (i + s) j = some t ∧ sameHd t' t ∧ (∀ o e l, t' = .arr o e l → g'.hd (L.ext i j) = g.hd (M.ext (i + s) j))

theorem cellAt_lt {el : List (List T)} {i j : Nat} {t : T} (h : cellAt el i j = some t) : i < el.length := by
  unfold cellAt at h
  cases e : el[i]? with
  | none => rw [e] at h; cases h
  | some row => exact (List.getElem?_eq_some_iff.1 e).1

theorem CellOk.same {g g' : Gh} {L M : GLoc} {t t' : T} {x : Value} (h : CellOk g M t x) (hs : sameHd t' t) (hg : ∀ o e l, t' = .arr o e l → g'.hd L = g.hd M) : CellOk g' L t' x := by
  cases t' with
  | val u => simp only [sameHd] at hs; subst hs; exact h
  | nil => simp only [sameHd] at hs; subst hs; exact h
  | arr ro es el =>
    obtain ⟨ro', es', el', rfl, hl⟩ := hs
    simp only [CellOk] at h ⊢
    rw [hg _ _ _ rfl, h, hl]
  | _ => trivial

theorem Sim.blk {g g' : Gh} {L M : GLoc} {s : Nat} {n' n : Node} (h : Sim g g' L M s n' n) {q : Nat} (hq : (g'.hd L).blk = some q) : (g.hd M).blk = some q := by
  unfold Hd.blk at hq ⊢
  split at hq
  · cases hq
  · rename_i hc
    obtain ⟨q', o, h1, h2⟩ := h.a hc
    rw [if_neg (by have := h.cap; omega), h1]
    rw [h2] at hq
    simpa using hq

theorem Sim.nodeOk {g g' : Gh} {W : World} {L M : GLoc} {s : Nat} {n' n : Node} (h : Sim g g' L M s n' n) (hr : n'.ro = .own → n.ro = .own) (k : NodeOk g W M n) : NodeOk g' W L n' := by
  have hm : ∀ i, (i + s) * n.es = i * n.es + s * n.es := fun i => Nat.add_mul i s n.es
  refine ⟨h.len, fun hc => ?_, h.rows, fun i j t' ht => ?_⟩
  · obtain ⟨q, o, h1, h2⟩ := h.a hc
    obtain ⟨q', o', ty, sz, h3, h4, h5, h6⟩ := k.mem (by have := h.cap; omega)
    rw [h1] at h3
    obtain ⟨rfl, rfl⟩ : q = q' ∧ o = o' := by simpa using h3
    have hcap : (g.hd M).cap * n.es = (g'.hd L).cap * n.es + s * n.es := by rw [← h.cap, hm]
    refine ⟨q, _, ty, sz, h2, h4, ?_, fun hr' k' hk => ?_⟩
    · rw [h.es]; omega
    · rw [h.es] at hk
      have := h6 (hr hr') (s * n.es + k') (by omega)
      rwa [← Nat.add_assoc] at this
  · obtain ⟨t, h1, h2, h3⟩ := h.cells i j t' ht
    obtain ⟨q, o, x, h4, h5, h6⟩ := k.cells (i + s) j t h1
    have hc : (g'.hd L).cap ≠ 0 := by have := h.len; have := cellAt_lt ht; omega
    obtain ⟨q', o', h7, h8⟩ := h.a hc
    rw [h4] at h7
    obtain ⟨rfl, rfl⟩ : q = q' ∧ o = o' := by simpa using h7
    refine ⟨q, _, x, h8, ?_, h6.same h2 h3⟩
    rw [h.es]
    rw [hm] at h5
    rwa [show o + s * n.es + i * n.es + j = o + (i * n.es + s * n.es) + j by omega]

theorem FInv.reindex {C : Ctx} {fo fo' : NSet} {b : List (Nat × Nat)} {W : World} {g g' : Gh} (h : FInv C fo b W g) (hbx : g'.bx = g.bx) (φ : GLoc → GLoc) (σ : GLoc → Nat)
    (H : ∀ L n', fo' L = some n' → ∃ n, fo (φ L) = some n ∧ n'.ro = n.ro ∧ Sim g g' L (φ L) (σ L) n' n)
    (inj : ∀ L L' n n', fo' L = some n → fo' L' = some n' → n.ro = .own → φ L = φ L' → L = L') : FInv C fo' b W g' := by
  refine ⟨fun L n' hn => ?_, by rw [hbx]; exact h.box, by rw [hbx]; exact h.boxlt, fun L L' n n' hn hn' ho hne q hq hq' => ?_, fun L n' d m hn hd hq => ?_, by rw [hbx]; exact h.x3,
    fun L n' q o hn ho hc ha => ?_, by rw [hbx]; exact h.srb, fun L n' q hn ho hq => ?_, fun L n' q hn ho hq => ?_, h.fr, h.n0, h.own⟩
  · obtain ⟨n, h1, h2, h3⟩ := H L n' hn
    exact h3.nodeOk (fun e => h2 ▸ e) (h.node _ _ h1)
  · obtain ⟨m, h1, h2, h3⟩ := H L n hn
    obtain ⟨m', h1', h2', h3'⟩ := H L' n' hn'
    exact h.x1 _ _ _ _ h1 h1' (h2 ▸ ho) (fun e => hne (inj L L' n n' hn hn' ho e)) q (h3.blk hq) (h3'.blk hq')
  · obtain ⟨m', h1, h2, h3⟩ := H L n' hn
    rw [hbx] at hq
    exact h.x2 _ _ d m h1 hd (h3.blk hq)
  · obtain ⟨n, h1, h2, h3⟩ := H L n' hn
    obtain ⟨q', o', h4, h5⟩ := h3.a hc
    rw [ha] at h5
    obtain ⟨rfl, rfl⟩ : q = q' ∧ o = o' + σ L * n.es := by simpa using h5
    refine (h.src _ _ _ _ h1 (h2 ▸ ho) (by have := h3.cap; omega) h4).imp id fun hk => ⟨hk.1, fun k hlt => ?_⟩
    have hcap : (g.hd (φ L)).cap * n.es = (g'.hd L).cap * n.es + σ L * n.es := by rw [← h3.cap, Nat.add_mul]
    rw [h3.es] at hlt
    have := hk.2 (σ L * n.es + k) (by omega)
    rwa [← Nat.add_assoc] at this
  · obtain ⟨n, h1, h2, h3⟩ := H L n' hn
    exact h.lent _ _ q h1 (h2 ▸ ho) (h3.blk hq)
  · obtain ⟨n, h1, h2, h3⟩ := H L n' hn
    exact h.stat _ _ q h1 (h2 ▸ ho) (h3.blk hq)

/-! Walks along paths. -/
theorem walk_append (n : Node) (p q : Path) : walk n (p ++ q) = (walk n p).bind fun m => walk m q := by
  induction p generalizing n with
  | nil => rfl
  | cons s p ih =>
    obtain ⟨i, j⟩ := s
    simp only [List.cons_append, walk]
    cases cellAt n.el i j with
    | none => rfl
    | some t =>
      simp only [Option.bind_some]
      cases t.node n.ro with
      | none => rfl
      | some m => exact ih m

theorem walk_cons (n : Node) (i j : Nat) (p : Path) : walk n ((i, j) :: p) = (cellAt n.el i j).bind fun t => (t.node n.ro).bind fun m => walk m p := rfl

theorem cellAt_cut (el : List (List T)) (off len i j : Nat) (h : i < len) : cellAt (cut el off len) i j = cellAt el (i + off) j := by
  unfold cellAt cut
  rw [List.getElem?_take, if_pos h, List.getElem?_drop, Nat.add_comm]

theorem length_cut (el : List (List T)) (off len : Nat) (h : off + len ≤ el.length) : (cut el off len).length = len := by
  unfold cut
  rw [List.length_take, List.length_drop]
  omega

theorem cellAt_cut_some {el : List (List T)} {off len i j : Nat} {t : T} (h : cellAt (cut el off len) i j = some t) : i < len ∧ cellAt el (i + off) j = some t := by
  have hl := cellAt_lt h
  have : i < len := by
    unfold cut at hl
    rw [List.length_take] at hl
    omega
  exact ⟨this, by rwa [cellAt_cut _ _ _ _ _ this] at h⟩

theorem mem_cut {el : List (List T)} {off len : Nat} {row : List T} (h : row ∈ cut el off len) : row ∈ el := List.mem_of_mem_drop (List.mem_of_mem_take h)

/-- Below its top a part of a node is as the node is. -/
theorem walk_cut (n : Node) (off len : Nat) (i j : Nat) (p : Path) (m : Node) (h : walk ⟨n.ro, n.es, cut n.el off len⟩ ((i, j) :: p) = some m) : walk n ((i + off, j) :: p) = some m := by
  rw [walk_cons] at h ⊢
  obtain ⟨t, ht, h⟩ := Option.bind_eq_some_iff.1 h
  rw [(cellAt_cut_some ht).2]
  exact h

theorem sameHd_refl (t : T) : sameHd t t := by
  cases t <;> first | rfl | trivial | exact ⟨_, _, _, rfl, rfl⟩

theorem sim_self {g g' : Gh} {W : World} {L M : GLoc} {n : Node} (hn : NodeOk g W M n) (h1 : g'.hd L = g.hd M) (h2 : ∀ i j, g'.hd (L.ext i j) = g.hd (M.ext i j)) : Sim g g' L M 0 n n :=
  ⟨rfl, by rw [h1]; rfl, fun hc => by
      rw [h1] at hc ⊢
      obtain ⟨q, o, _, _, ha, _⟩ := hn.mem hc
      exact ⟨q, o, ha, by simpa using ha⟩, by rw [h1]; exact hn.len, hn.rows, fun i j t ht => ⟨t, ht, sameHd_refl t, fun _ _ _ _ => h2 i j⟩⟩

end Go.Proofs.Ytekfjbejfondnaa.Tom
/-! Changing a tree at a path: which nodes are then where. -/
namespace Go.Proofs.Ytekfjbejfondnaa.Tom
open Go

theorem cellAt_set {el : List (List T)} {i j : Nat} {row : List T} (h : el[i]? = some row) (t : T) (hj : j < row.length) (i' j' : Nat) :
    cellAt (el.set i (row.set j t)) i' j' = if i' = i ∧ j' = j then some t else cellAt el i' j' := by
  have hi := (List.getElem?_eq_some_iff.1 h).1
  unfold cellAt
  by_cases e : i' = i
  · subst e
    rw [List.getElem?_set_self hi, h]
    simp only [Option.bind_some, true_and]
    by_cases f : j' = j
    · subst f; rw [List.getElem?_set_self hj, if_pos rfl]
    · rw [List.getElem?_set_ne (fun x => f x.symm), if_neg f]
  · rw [List.getElem?_set_ne (fun x => e x.symm), if_neg (fun x => e x.1)]

/-- Lists of rows that differ in cells alone. -/
def sameShape (a b : List (List T)) : Prop := a.length = b.length ∧ ∀ (i : Nat) (r : List T), a[i]? = some r → ∃ s : List T, b[i]? = some s ∧ s.length = r.length

theorem sameShape_refl (a : List (List T)) : sameShape a a := ⟨rfl, fun _ r h => ⟨r, h, rfl⟩⟩

theorem sameShape.rows {a b : List (List T)} {es : Nat} (h : sameShape a b) (hb : ∀ row ∈ b, row.length = es) : ∀ row ∈ a, row.length = es := by
  intro row hr
  obtain ⟨i, hi⟩ := List.getElem?_of_mem hr
  obtain ⟨s, h1, h2⟩ := h.2 i row hi
  rw [← h2]
  exact hb s (List.mem_of_getElem? h1)

theorem sameShape_set {el : List (List T)} {i : Nat} {row row' : List T} (h : el[i]? = some row) (hl : row'.length = row.length) : sameShape (el.set i row') el := by
  have hi := (List.getElem?_eq_some_iff.1 h).1
  refine ⟨by simp, fun k r hk => ?_⟩
  by_cases e : k = i
  · subst e
    rw [List.getElem?_set_self hi] at hk
    obtain rfl := Option.some.inj hk
    exact ⟨row, h, hl.symm⟩
  · rw [List.getElem?_set_ne (fun x => e x.symm)] at hk
    exact ⟨r, hk, rfl⟩

def LenKeep (f : List (List T) → Option (List (List T))) : Prop := ∀ e e', f e = some e' → e'.length = e.length

theorem modEl_length {f : List (List T) → Option (List (List T))} (hf : LenKeep f) {el el' : List (List T)} {p : Path} (h : modEl f el p = some el') : el'.length = el.length := by
  cases p with
  | nil => exact hf _ _ h
  | cons s p =>
    obtain ⟨i, j⟩ := s
    simp only [modEl] at h
    obtain ⟨row, _, h⟩ := Option.bind_eq_some_iff.1 h
    obtain ⟨t, _, h⟩ := Option.bind_eq_some_iff.1 h
    split at h
    · obtain ⟨e', _, rfl⟩ := Option.map_eq_some_iff.1 h
      simp
    · cases h

/-- A node that differs from another in what lies in some cells' trees. -/
structure Like (m2 m1 : Node) : Prop where
  ro : m2.ro = m1.ro
  es : m2.es = m1.es
  shape : sameShape m2.el m1.el
  cells : ∀ i j t2, cellAt m2.el i j = some t2 → ∃ t1, cellAt m1.el i j = some t1 ∧ sameHd t2 t1

theorem Like.refl (m : Node) : Like m m := ⟨rfl, rfl, sameShape_refl _, fun _ _ t h => ⟨t, h, sameHd_refl t⟩⟩

theorem modEl_walk {f : List (List T) → Option (List (List T))} (hf : LenKeep f) (p : Path) : ∀ (n : Node) (el' : List (List T)), modEl f n.el p = some el' →
    ∃ m e', walk n p = some m ∧ f m.el = some e' ∧ (∀ q, walk ⟨n.ro, n.es, el'⟩ (p ++ q) = walk ⟨m.ro, m.es, e'⟩ q) ∧
      ∀ q m2, ¬ p <+: q → walk ⟨n.ro, n.es, el'⟩ q = some m2 → ∃ m1, walk n q = some m1 ∧ Like m2 m1 := by
  induction p with
  | nil =>
    intro n el' h
    exact ⟨n, el', rfl, h, fun q => rfl, fun q m2 hq => (hq (List.nil_prefix)).elim⟩
  | cons s p ih =>
    obtain ⟨i, j⟩ := s
    intro n el' h
    simp only [modEl] at h
    obtain ⟨row, hrow, h⟩ := Option.bind_eq_some_iff.1 h
    obtain ⟨t, ht, h⟩ := Option.bind_eq_some_iff.1 h
    cases t with
    | arr o es e =>
      obtain ⟨e1, he1, rfl⟩ := Option.map_eq_some_iff.1 h
      have hj := (List.getElem?_eq_some_iff.1 ht).1
      have hc : cellAt n.el i j = some (.arr o es e) := by unfold cellAt; rw [hrow]; exact ht
      have hc' := fun i' j' => cellAt_set hrow (.arr o es e1) hj i' j'
      obtain ⟨m, e', hm, hfm, h1, h2⟩ := ih ⟨n.ro.under o, es, e⟩ e1 he1
      refine ⟨m, e', ?_, hfm, fun q => ?_, fun q m2 hq hw => ?_⟩
      · rw [walk_cons, hc]; exact hm
      · rw [List.cons_append, walk_cons, hc', if_pos ⟨rfl, rfl⟩]
        exact h1 q
      · cases q with
        | nil =>
          obtain rfl := Option.some.inj hw
          refine ⟨n, rfl, rfl, rfl, sameShape_set hrow (by simp), fun i' j' t2 h2 => ?_⟩
          rw [hc'] at h2
          split at h2
          · rename_i hij
            obtain ⟨rfl, rfl⟩ := hij
            obtain rfl := Option.some.inj h2
            exact ⟨_, hc, _, _, _, rfl, (modEl_length hf he1).symm⟩
          · exact ⟨t2, h2, sameHd_refl t2⟩
        | cons s' q =>
          obtain ⟨i', j'⟩ := s'
          rw [walk_cons, hc'] at hw
          split at hw
          · rename_i hij
            obtain ⟨rfl, rfl⟩ := hij
            obtain ⟨m1, hm1, hl⟩ := h2 q m2 (fun hp => hq (List.prefix_cons_inj _ |>.2 hp)) hw
            exact ⟨m1, by rw [walk_cons, hc]; exact hm1, hl⟩
          · exact ⟨m2, by rw [walk_cons]; exact hw, Like.refl m2⟩
    | _ => cases h

theorem putRow_some {row row' : List T} {c : Nat} {ts : List T} (h : putRow row c ts = some row') : c + ts.length ≤ row.length ∧ row'.length = row.length ∧
    ∀ j, row'[j]? = if c ≤ j ∧ j < c + ts.length then ts[j - c]? else row[j]? := by
  unfold putRow at h
  split at h
  · rename_i hl
    obtain rfl := Option.some.inj h
    refine ⟨hl, by simp; omega, fun j => ?_⟩
    have h1 : (row.take c).length = c := by simp; omega
    by_cases hj : j < c
    · rw [if_neg (by omega), List.append_assoc, List.getElem?_append_left (by omega), List.getElem?_take, if_pos hj]
    · by_cases hj2 : j < c + ts.length
      · rw [if_pos ⟨by omega, hj2⟩, List.append_assoc, List.getElem?_append_right (by omega), List.getElem?_append_left (by omega), h1]
      · rw [if_neg (by omega), List.append_assoc, List.getElem?_append_right (by omega), List.getElem?_append_right (by omega), h1, List.getElem?_drop]
        congr 1; omega
  · cases h

theorem putCells_some {i c : Nat} {ts : List T} {el el' : List (List T)} (h : putCells i c ts el = some el') : sameShape el' el ∧ (∃ row, el[i]? = some row ∧ c + ts.length ≤ row.length) ∧
    ∀ i' j', cellAt el' i' j' = if i' = i ∧ c ≤ j' ∧ j' < c + ts.length then ts[j' - c]? else cellAt el i' j' := by
  unfold putCells at h
  obtain ⟨row, hrow, h⟩ := Option.bind_eq_some_iff.1 h
  obtain ⟨row', hr, rfl⟩ := Option.map_eq_some_iff.1 h
  obtain ⟨h1, h2, h3⟩ := putRow_some hr
  have hi := (List.getElem?_eq_some_iff.1 hrow).1
  refine ⟨sameShape_set hrow h2, ⟨row, hrow, h1⟩, fun i' j' => ?_⟩
  unfold cellAt
  by_cases e : i' = i
  · subst e
    rw [List.getElem?_set_self hi, hrow]
    simp only [Option.bind_some, true_and]
    exact h3 j'
  · rw [List.getElem?_set_ne (fun x => e x.symm), if_neg (fun x => e x.1)]

theorem putCells_len (i c : Nat) (ts : List T) : LenKeep (putCells i c ts) := fun _ _ h => (putCells_some h).1.1

theorem newEl_len (new : List (List T)) : LenKeep (newEl new) := fun e e' h => by
  unfold newEl at h
  split at h
  · rename_i hl; obtain rfl := Option.some.inj h; exact hl
  · cases h

/-! Roots. -/
theorem getR_delR (r : Roots) (k k' : Key) : getR (delR r k) k' = if k' = k then none else getR r k' := by
  induction r with
  | nil => simp [delR, getR]
  | cons x r ih =>
    obtain ⟨a, n⟩ := x
    simp only [delR]
    split
    · rename_i h
      subst h
      rw [ih]
      split
      · rfl
      · rename_i h2; rw [getR, if_neg (fun e => h2 e.symm)]
    · rename_i h
      simp only [getR]
      split
      · rename_i h2
        subst h2
        rw [if_neg h]
      · exact ih

theorem getR_setR (r : Roots) (k k' : Key) (m : Node) (h : (getR r k).isSome) : getR (setR r k m) k' = if k' = k then some m else getR r k' := by
  induction r with
  | nil => simp [getR] at h
  | cons x r ih =>
    obtain ⟨a, n⟩ := x
    simp only [setR]
    split
    · rename_i h1
      subst h1
      simp only [getR]
      split
      · rename_i h2; rw [if_pos h2.symm]
      · rename_i h2; rw [if_neg (fun e => h2 e.symm)]
    · rename_i h1
      simp only [getR] at h ⊢
      rw [if_neg h1] at h
      split
      · rename_i h2; subst h2; rw [if_neg h1]
      · exact ih h

/-- Roots changed at a place: below it the changed node, elsewhere like nodes. -/
theorem modAt_some {f : List (List T) → Option (List (List T))} (hf : LenKeep f) {r r' : Roots} {L : Loc} (h : modAt r L f = some r') :
    ∃ m e', nodeAt r L = some m ∧ f m.el = some e' ∧ (∀ q, nodeAt r' ⟨L.key, L.path ++ q⟩ = walk ⟨m.ro, m.es, e'⟩ q) ∧
      (∀ M m2, (M.key = L.key → ¬ L.path <+: M.path) → nodeAt r' M = some m2 → ∃ m1, nodeAt r M = some m1 ∧ Like m2 m1) ∧ (∀ k, (getR r' k).isSome = (getR r k).isSome) := by
  unfold modAt at h
  obtain ⟨n, hn, h⟩ := Option.bind_eq_some_iff.1 h
  obtain ⟨el, hel, rfl⟩ := Option.map_eq_some_iff.1 h
  obtain ⟨m, e', h1, h2, h3, h4⟩ := modEl_walk hf L.path n el hel
  have hg := fun k' => getR_setR r L.key k' ⟨n.ro, n.es, el⟩ (by rw [hn]; rfl)
  refine ⟨m, e', by unfold nodeAt; rw [hn]; exact h1, h2, fun q => ?_, fun M m2 hM hm => ?_, fun k => ?_⟩
  · unfold nodeAt
    simp only
    rw [hg, if_pos rfl]
    exact h3 q
  · unfold nodeAt at hm ⊢
    rw [hg] at hm
    split at hm
    · rename_i hk
      rw [hk, hn]
      exact h4 _ m2 (hM hk) hm
    · exact ⟨m2, hm, Like.refl m2⟩
  · rw [hg]
    split
    · rename_i hk; rw [hk, hn]; rfl
    · rfl

end Go.Proofs.Ytekfjbejfondnaa.Tom
/-! Taking a tree out of its place: it stands then detached. -/
namespace Go.Proofs.Ytekfjbejfondnaa.Tom
open Go

def foD (r : Roots) (D : Key → Option Node) : Forest := fun z k => if z = 0 then getR r k else if z = 1 then D k else none
def setK (D : Key → Option Node) (k : Key) (x : Option Node) : Key → Option Node := fun k' => if k' = k then x else D k'

theorem atF_foD (r : Roots) (D : Key → Option Node) (L : Loc) : atF (foD r D) L.g = nodeAt r L := rfl
theorem setK_none {D : Key → Option Node} {k : Key} (h : D k = none) : setK D k none = D := by
  funext k'
  unfold setK
  split
  · rename_i e; rw [e, h]
  · rfl

theorem noneD : foD [] (fun _ => none) = fun _ _ => none := by funext z k; simp [foD, getR]

def shiftP (s : Nat) : Path → Path
  | [] => []
  | (i, j) :: p => (i + s, j) :: p

theorem shiftP_inj {s : Nat} {p q : Path} (h : shiftP s p = shiftP s q) : p = q := by
  cases p with
  | nil => cases q with
    | nil => rfl
    | cons y q => simp [shiftP] at h
  | cons x p => cases q with
    | nil => simp [shiftP] at h
    | cons y q =>
      simp only [shiftP, List.cons.injEq, Prod.mk.injEq] at h
      obtain ⟨⟨h1, h2⟩, h3⟩ := h
      obtain ⟨a, b⟩ := x
      obtain ⟨c, d⟩ := y
      simp only at h1 h2
      rw [h3, h2, show a = c by omega]

theorem walk_shift {n : Node} {ro : Ro} {off len : Nat} {p : Path} {m : Node} (hro : ro = n.ro) (hp : p ≠ []) (h : walk ⟨ro, n.es, cut n.el off len⟩ p = some m) : walk n (shiftP off p) = some m := by
  subst hro
  cases p with
  | nil => exact (hp rfl).elim
  | cons s p => exact walk_cut n off len s.1 s.2 p m h

/-- The ghost of a tree that is taken out, from row s of the node at M on. -/
def takeG (g : Gh) (kd : Key) (M : GLoc) (s : Nat) (h0 : Hd) : Gh :=
  ⟨fun L => if L.z = 1 ∧ L.k = kd then (if L.p = [] then h0 else g.hd ⟨M.z, M.k, M.p ++ shiftP s L.p⟩) else g.hd L, g.bx⟩

def takeφ (kd : Key) (M : GLoc) (s : Nat) (L : GLoc) : GLoc := if L.z = 1 ∧ L.k = kd then ⟨M.z, M.k, M.p ++ shiftP s L.p⟩ else L

theorem shiftP_snoc {s : Nat} {p : Path} (hp : p ≠ []) (i j : Nat) : shiftP s (p ++ [(i, j)]) = shiftP s p ++ [(i, j)] := by
  cases p with
  | nil => exact (hp rfl).elim
  | cons x p => rfl

theorem atF_append (fo : Forest) (z : Nat) (k : Key) (p q : Path) : atF fo ⟨z, k, p ++ q⟩ = (atF fo ⟨z, k, p⟩).bind fun n => walk n q := by
  unfold atF
  simp only
  cases fo z k with
  | none => rfl
  | some n => exact walk_append n p q

theorem Like.sim {g g' : Gh} {W : World} {L : GLoc} {n' n : Node} (h : Like n' n) (hn : NodeOk g W L n) (h1 : g'.hd L = g.hd L) (h2 : ∀ i j, g'.hd (L.ext i j) = g.hd (L.ext i j)) : Sim g g' L L 0 n' n :=
  ⟨h.es, by rw [h1]; rfl, fun hc => by
      rw [h1] at hc ⊢
      obtain ⟨q, o, _, _, ha, _⟩ := hn.mem hc
      exact ⟨q, o, ha, by simpa using ha⟩, by rw [h1, h.shape.1]; exact hn.len, by rw [h.es]; exact h.shape.rows hn.rows, fun i j t ht => by
      obtain ⟨t1, h3, h4⟩ := h.cells i j t ht
      exact ⟨t1, h3, h4, fun _ _ _ _ => h2 i j⟩⟩

theorem walk_own (p : Path) : ∀ {n m : Node}, walk n p = some m → m.ro = .own → n.ro = .own := by
  induction p with
  | nil => intro n m h ho; obtain rfl := Option.some.inj h; exact ho
  | cons s p ih =>
    intro n m h ho
    obtain ⟨i, j⟩ := s
    rw [walk_cons] at h
    obtain ⟨t, _, h⟩ := Option.bind_eq_some_iff.1 h
    obtain ⟨m', hm', h⟩ := Option.bind_eq_some_iff.1 h
    have := ih h ho
    cases t with
    | arr o es el =>
      obtain rfl := Option.some.inj hm'
      simp only at this
      cases hn : n.ro <;> rw [hn] at this <;> first | rfl | cases this
    | _ => cases hm'

/-- A part of the node at M stands as a root of its own, detached; the forest may have lost what lies from M on. -/
theorem take_node {C : Ctx} {fo fo' : Forest} {b : List (Nat × Nat)} {W : World} {g : Gh} (h : FInv C (atF fo) b W g) {M : GLoc} {n : Node} (hn : atF fo M = some n) {kd : Key}
    {off len : Nat} (hl : off + len ≤ n.el.length) {a : Option Addr} {c : Nat} (hc1 : len ≤ c) (hc2 : off + c = (g.hd M).cap)
    (hc3 : c ≠ 0 → ∃ q o, (g.hd M).a = some ⟨q, o, none⟩ ∧ a = some ⟨q, o + off * n.es, none⟩)
    (hkd : fo' 1 kd = some ⟨n.ro, n.es, cut n.el off len⟩) (hold : ∀ L m2, ¬ (L.z = 1 ∧ L.k = kd) → atF fo' L = some m2 → ∃ m1, atF fo L = some m1 ∧ Like m2 m1)
    (hfree : n.ro = .own → ∀ L m2 q, ¬ (L.z = 1 ∧ L.k = kd) → atF fo' L = some m2 → L ≠ ⟨M.z, M.k, M.p ++ q⟩) :
    FInv C (atF fo') b W (takeG g kd M off ⟨a, c⟩) := by
  have hwalk : ∀ L m2, L.z = 1 ∧ L.k = kd → atF fo' L = some m2 → (L.p = [] ∧ m2 = ⟨n.ro, n.es, cut n.el off len⟩) ∨ (L.p ≠ [] ∧ atF fo ⟨M.z, M.k, M.p ++ shiftP off L.p⟩ = some m2) := by
    intro L m2 hL hm
    unfold atF at hm
    rw [hL.1, hL.2, hkd] at hm
    by_cases hp : L.p = []
    · rw [hp] at hm
      exact .inl ⟨hp, (Option.some.inj hm).symm⟩
    · refine .inr ⟨hp, ?_⟩
      rw [atF_append, hn]
      exact walk_shift rfl hp hm
  have hgk : ∀ L, L.z = 1 ∧ L.k = kd → L.p ≠ [] → (takeG g kd M off ⟨a, c⟩).hd L = g.hd ⟨M.z, M.k, M.p ++ shiftP off L.p⟩ := by
    intro L hL hp
    simp only [takeG, if_pos hL, if_neg hp]
  have hgo : ∀ L, ¬ (L.z = 1 ∧ L.k = kd) → (takeG g kd M off ⟨a, c⟩).hd L = g.hd L := fun L hL => by simp only [takeG, if_neg hL]
  refine h.reindex (fo' := atF fo') (g' := takeG g kd M off ⟨a, c⟩) rfl (takeφ kd M off) (fun L => if L.z = 1 ∧ L.k = kd then (if L.p = [] then off else 0) else 0) (fun L m2 hm => ?_) (fun L L' m m' hm hm' ho he => ?_)
  · by_cases hL : L.z = 1 ∧ L.k = kd
    · rcases hwalk L m2 hL hm with ⟨hp, rfl⟩ | ⟨hp, hw⟩
      · refine ⟨n, ?_, rfl, ?_⟩
        · simp only [takeφ, if_pos hL, hp, shiftP, List.append_nil]; exact hn
        · have hhd : (takeG g kd M off ⟨a, c⟩).hd L = ⟨a, c⟩ := by simp only [takeG, if_pos hL, hp, if_true]
          simp only [takeφ, if_pos hL, hp, shiftP, List.append_nil, if_true]
          refine ⟨rfl, by rw [hhd]; show c + off = (g.hd M).cap; omega, fun hc => ?_, by rw [hhd, length_cut _ _ _ hl]; exact hc1, fun row hr => (h.node _ _ hn).rows row (mem_cut hr), fun i j t ht => ?_⟩
          · rw [hhd] at hc ⊢
            exact hc3 hc
          · obtain ⟨h1, h2⟩ := cellAt_cut_some ht
            refine ⟨t, h2, sameHd_refl t, fun _ _ _ _ => ?_⟩
            rw [hgk (L.ext i j) hL (by simp [GLoc.ext])]
            simp only [GLoc.ext, hp, List.nil_append, shiftP]
      · have hφ : takeφ kd M off L = ⟨M.z, M.k, M.p ++ shiftP off L.p⟩ := by simp only [takeφ, if_pos hL]
        refine ⟨m2, by rw [hφ]; exact hw, rfl, ?_⟩
        rw [hφ]
        simp only [if_pos hL, if_neg hp]
        exact sim_self (h.node _ _ hw) (hgk L hL hp) (fun i j => by
          rw [hgk (L.ext i j) hL (by simp [GLoc.ext])]
          simp only [GLoc.ext, shiftP_snoc hp, List.append_assoc])
    · obtain ⟨m1, h1, h2⟩ := hold L m2 hL hm
      have hφ : takeφ kd M off L = L := by simp only [takeφ, if_neg hL]
      refine ⟨m1, by rw [hφ]; exact h1, h2.ro, ?_⟩
      rw [hφ]
      simp only [if_neg hL]
      exact h2.sim (h.node _ _ h1) (hgo L hL) (fun i j => hgo _ hL)
  · by_cases hL : L.z = 1 ∧ L.k = kd <;> by_cases hL' : L'.z = 1 ∧ L'.k = kd
    · simp only [takeφ, if_pos hL, if_pos hL', GLoc.mk.injEq, true_and] at he
      have := shiftP_inj (List.append_cancel_left he)
      obtain ⟨z, k, p⟩ := L
      obtain ⟨z', k', p'⟩ := L'
      simp only at hL hL' this
      rw [hL.1, hL.2, hL'.1, hL'.2, this]
    · simp only [takeφ, if_pos hL, if_neg hL'] at he
      have hno : n.ro = .own := by
        rcases hwalk L m hL hm with ⟨hp, rfl⟩ | ⟨hp, hw⟩
        · exact ho
        · rw [atF_append, hn] at hw
          exact walk_own _ hw ho
      exact (hfree hno L' m' _ hL' hm' he.symm).elim
    · simp only [takeφ, if_neg hL, if_pos hL'] at he
      by_cases hno : n.ro = .own
      · exact (hfree hno L m _ hL hm he).elim
      · exfalso
        obtain ⟨m1, h1, h2⟩ := hold L m hL hm
        rw [he, atF_append, hn] at h1
        exact hno (walk_own _ h1 (h2.ro ▸ ho))
    · simpa only [takeφ, if_neg hL, if_neg hL'] using he

theorem foD_old {r r' : Roots} {D : Key → Option Node} {kd : Key} {x : Option Node} (h : ∀ M m2, nodeAt r' M = some m2 → ∃ m1, nodeAt r M = some m1 ∧ Like m2 m1) :
    ∀ L m2, ¬ (L.z = 1 ∧ L.k = kd) → atF (foD r' (setK D kd x)) L = some m2 → ∃ m1, atF (foD r D) L = some m1 ∧ Like m2 m1 := by
  intro L m2 hL hm
  obtain ⟨z, k, p⟩ := L
  by_cases hz : z = 0
  · subst hz; exact h ⟨k, p⟩ m2 hm
  · refine ⟨m2, ?_, Like.refl _⟩
    unfold atF foD at hm ⊢
    simp only [hz, if_false] at hm ⊢
    by_cases hz1 : z = 1
    · simp only [hz1, if_true] at hm ⊢
      simp only [hz1, true_and] at hL
      rwa [show setK D kd x k = D k from if_neg hL] at hm
    · simp only [hz1, if_false, Option.bind_none] at hm
      cases hm

theorem nodeAt_delR {r : Roots} {k : Key} {M : Loc} {m : Node} (h : nodeAt (delR r k) M = some m) : M.key ≠ k ∧ nodeAt r M = some m := by
  unfold nodeAt at h ⊢
  rw [getR_delR] at h
  split at h
  · cases h
  · rename_i hk; exact ⟨hk, h⟩

theorem getLast_split {α : Type} {l : List α} {x : α} (h : l.getLast? = some x) : l = l.dropLast ++ [x] := by
  have hne : l ≠ [] := by rintro rfl; cases h
  rw [List.getLast?_eq_some_getLast hne] at h
  obtain rfl := Option.some.inj h
  exact (List.dropLast_concat_getLast hne).symm

theorem node_arr (o : Ro) (es : Nat) (el : List (List T)) : (T.arr o es el).node .own = some ⟨o, es, el⟩ := rfl

theorem takeC_ok {C : Ctx} {r r' : Roots} {D : Key → Option Node} {b : List (Nat × Nat)} {W : World} {g : Gh} {v : V} {x : Value} {t : T}
    (h : FInv C (atF <| foD r D) b W g) (hv : VOk g (atF (foD r D)) b v x) (ht : takeC r v = some (t, r')) (kd : Key) (hk : D kd = none) :
    ∃ g', FInv C (atF <| foD r' (setK D kd (t.node .own))) b W g' ∧ CellOk g' ⟨1, kd, []⟩ t x ∧ (v ≠ .un → x.oneCell' = true) ∧ g'.bx = g.bx ∧
      (∀ L, ¬ (L.z = 1 ∧ L.k = kd) → g'.hd L = g.hd L) ∧ ∀ M m2, nodeAt r' M = some m2 → ∃ m1, nodeAt r M = some m1 ∧ Like m2 m1 := by
  cases v with
  | val u =>
    obtain ⟨rfl, rfl⟩ := Prod.mk.inj (Option.some.inj ht)
    refine ⟨g, ?_, hv, fun _ => ?_, rfl, fun _ _ => rfl, fun M m hm => ⟨m, hm, Like.refl m⟩⟩
    · rw [show (T.val u).node .own = none from rfl, setK_none hk]; exact h
    · rw [hv.1]; exact hv.2
  | nil =>
    obtain ⟨rfl, rfl⟩ := Prod.mk.inj (Option.some.inj ht)
    refine ⟨g, ?_, hv, fun _ => ?_, rfl, fun _ _ => rfl, fun M m hm => ⟨m, hm, Like.refl m⟩⟩
    · rw [show T.nil.node .own = none from rfl, setK_none hk]; exact h
    · simp only [VOk] at hv; rw [hv]; rfl
  | un =>
    obtain ⟨rfl, rfl⟩ := Prod.mk.inj (Option.some.inj ht)
    refine ⟨g, ?_, trivial, fun e => (e rfl).elim, rfl, fun _ _ => rfl, fun M m hm => ⟨m, hm, Like.refl m⟩⟩
    rw [show T.dead.node .own = none from rfl, setK_none hk]; exact h
  | sl L off len =>
    simp only [takeC] at ht
    obtain ⟨n, hn, ht⟩ := Option.bind_eq_some_iff.1 ht
    obtain ⟨a, c, rfl, hv⟩ := hv
    obtain ⟨hc1, hc2, hc3⟩ := hv n hn
    have key : ∀ r'' (hl : off + len ≤ n.el.length), (∀ M m2, nodeAt r'' M = some m2 → ∃ m1, nodeAt r M = some m1 ∧ Like m2 m1) →
        (n.ro = .own → ∀ (p : Path), nodeAt r'' ⟨L.key, L.path ++ p⟩ = none) →
        ∃ g', FInv C (atF (foD r'' (setK D kd (some ⟨n.ro, n.es, cut n.el off len⟩)))) b W g' ∧ CellOk g' ⟨1, kd, []⟩ (.arr n.ro n.es (cut n.el off len)) (.slice a len c) ∧ (V.sl L off len ≠ .un → (Value.slice a len c).oneCell' = true) ∧ g'.bx = g.bx ∧
        (∀ L, ¬ (L.z = 1 ∧ L.k = kd) → g'.hd L = g.hd L) ∧ ∀ M m2, nodeAt r'' M = some m2 → ∃ m1, nodeAt r M = some m1 ∧ Like m2 m1 := by
      intro r'' hl hold hfree
      refine ⟨takeG g kd L.g off ⟨a, c⟩, ?_, ?_, fun _ => rfl, rfl, fun M hM => by simp only [takeG, if_neg hM], hold⟩
      · refine take_node (fo' := foD r'' (setK D kd (some ⟨n.ro, n.es, cut n.el off len⟩))) h (M := L.g) hn hl hc1 hc2 hc3 ?_ (foD_old hold) ?_
        · simp [foD, setK]
        · intro ho M m2 q hM hm e
          obtain ⟨z, k, p⟩ := M
          simp only [Loc.g, GLoc.mk.injEq] at e
          obtain ⟨rfl, rfl, rfl⟩ := e
          rw [show atF (foD r'' (setK D kd (some ⟨n.ro, n.es, cut n.el off len⟩))) ⟨0, L.key, L.path ++ q⟩ = nodeAt r'' ⟨L.key, L.path ++ q⟩ from rfl, hfree ho q] at hm
          cases hm
      · simp only [CellOk, takeG, and_self, if_true]
        rw [length_cut _ _ _ hl]
    split at ht
    · rename_i hl
      cases hro : n.ro with
      | own =>
        simp only [hro] at ht
        rw [hro] at key
        cases hp : L.path.getLast? with
        | none =>
          simp only [hp] at ht
          obtain ⟨rfl, rfl⟩ := Prod.mk.inj (Option.some.inj ht)
          have hpn : L.path = [] := by
            cases e : L.path with
            | nil => rfl
            | cons y l => rw [e] at hp; simp at hp
          rw [node_arr]
          exact key _ hl (fun M m2 hm => ⟨m2, (nodeAt_delR hm).2, Like.refl _⟩) (fun _ p => by
            cases e : nodeAt (delR r L.key) ⟨L.key, L.path ++ p⟩ with
            | none => rfl
            | some m => exact ((nodeAt_delR e).1 rfl).elim)
        | some ij =>
          obtain ⟨i, j⟩ := ij
          simp only [hp] at ht
          obtain ⟨r1, hr1, e⟩ := Option.map_eq_some_iff.1 ht
          obtain ⟨rfl, rfl⟩ := Prod.mk.inj e
          have hps := getLast_split hp
          obtain ⟨m, e', h1, h2, h3, h4, h5⟩ := modAt_some (putCells_len i j [.dead]) hr1
          obtain ⟨q1, q2, q3⟩ := putCells_some h2
          rw [node_arr]
          refine key _ hl (fun M m2 hm => ?_) (fun _ p => ?_)
          · by_cases hM : M.key = L.key → ¬ L.path.dropLast <+: M.path
            · exact h4 M m2 hM hm
            · obtain ⟨e1, e2⟩ : M.key = L.key ∧ L.path.dropLast <+: M.path := by
                constructor
                · exact Classical.byContradiction fun hx => hM fun hy => (hx hy).elim
                · exact Classical.byContradiction fun hx => hM fun _ => hx
              obtain ⟨q, hq⟩ := e2
              obtain ⟨k, p⟩ := M
              simp only at e1 hq
              subst e1
              rw [← hq] at hm ⊢
              rw [h3 q] at hm
              have hnr : ∀ s, nodeAt r ⟨L.key, L.path.dropLast ++ s⟩ = walk m s := fun s => by
                have := atF_append (foR r) 0 L.key L.path.dropLast s
                rw [show atF (foR r) ⟨0, L.key, L.path.dropLast⟩ = some m from h1] at this
                exact this
              cases q with
              | nil =>
                obtain rfl := Option.some.inj hm
                refine ⟨m, hnr [], rfl, rfl, q1, fun i' j' t2 ht2 => ?_⟩
                rw [q3] at ht2
                split at ht2
                · rename_i hij
                  obtain ⟨rfl, hj1, hj2⟩ := hij
                  simp only [List.length_singleton] at hj2
                  obtain rfl : j' = j := by omega
                  simp only [Nat.sub_self, List.getElem?_cons_zero, Option.some.injEq] at ht2
                  obtain ⟨row, hrow, hlen⟩ := q2
                  subst ht2
                  exact ⟨row[j'], by unfold cellAt; rw [hrow]; simp, trivial⟩
                · exact ⟨t2, ht2, sameHd_refl _⟩
              | cons y q =>
                obtain ⟨i', j'⟩ := y
                refine ⟨m2, ?_, Like.refl _⟩
                rw [hnr, walk_cons]
                rw [walk_cons, q3] at hm
                split at hm
                · rename_i hij
                  simp only [List.length_singleton] at hij
                  obtain ⟨t1, e1, e2⟩ := Option.bind_eq_some_iff.1 hm
                  rw [show j' - j = 0 by omega] at e1
                  simp only [List.getElem?_cons_zero, Option.some.injEq] at e1
                  subst e1
                  cases e2
                · exact hm
          · have := h3 ((i, j) :: p)
            simp only at this
            rw [show L.path ++ p = L.path.dropLast ++ (i, j) :: p by
              conv => lhs; rw [hps]
              simp, this, walk_cons, q3, if_pos ⟨rfl, Nat.le_refl _, by simp⟩]
            simp [T.node]
      | lent =>
        simp only [hro] at ht
        obtain ⟨rfl, rfl⟩ := Prod.mk.inj (Option.some.inj ht)
        rw [hro] at key
        rw [node_arr]
        exact key _ hl (fun M m2 hm => ⟨m2, hm, Like.refl _⟩) (fun e => by cases e)
      | stat =>
        simp only [hro] at ht
        obtain ⟨rfl, rfl⟩ := Prod.mk.inj (Option.some.inj ht)
        rw [hro] at key
        rw [node_arr]
        exact key _ hl (fun M m2 hm => ⟨m2, hm, Like.refl _⟩) (fun e => by cases e)
    · cases ht
  | _ => cases ht

end Go.Proofs.Ytekfjbejfondnaa.Tom
/-! A node that is new, or newly written, in a forest. -/
namespace Go.Proofs.Ytekfjbejfondnaa.Tom
open Go

theorem FInv.put {C : Ctx} {fo fo' : NSet} {b : List (Nat × Nat)} {W W' : World} {g g' : Gh} (h : FInv C fo b W g) (hbx : g'.bx = g.bx) {q : Nat}
    (hW : ∀ q', q' < W.heap.size → q' ≠ q → W'.heap[q']? = W.heap[q']?) (hs : W.heap.size ≤ W'.heap.size) (hF : Frame' C W') {R0 : GLoc} {n : Node}
    (hn : NodeOk g' W' R0 n) (hq : ∀ q1, (g'.hd R0).blk = some q1 → q1 = q) (hro : n.ro = .own) (hqb : ∀ d m, getB b d = some m → (g.bx d).1 ≠ q)
    (hsrc : ∀ q1 o, (g'.hd R0).cap ≠ 0 → (g'.hd R0).a = some ⟨q1, o, none⟩ → C.W0.heap.size ≤ q1 ∨ (C.ob q1 ∧ ∀ k, k < (g'.hd R0).cap * n.es → C.own q1 (o + k)))
    (φ : GLoc → GLoc) (σ : GLoc → Nat)
    (H : ∀ L n', fo' L = some n' → (L = R0 ∧ n' = n) ∨ (L ≠ R0 ∧ (g'.hd L).blk ≠ some q ∧ ∃ m, fo (φ L) = some m ∧ n'.ro = m.ro ∧ Sim g g' L (φ L) (σ L) n' m))
    (inj : ∀ L L' n n', L ≠ R0 → L' ≠ R0 → fo' L = some n → fo' L' = some n' → n.ro = .own → φ L = φ L' → L = L') : FInv C fo' b W' g' := by
  have agree : ∀ q', q' < W.heap.size → q' ≠ q → W'.shape? q' = W.shape? q' ∧ ∀ i, W'.cell? ⟨q', i, none⟩ = W.cell? ⟨q', i, none⟩ ∧ W'.frozen? ⟨q', i, none⟩ = W.frozen? ⟨q', i, none⟩ :=
    fun q' h1 h2 => ⟨shape_of_heap (hW q' h1 h2), fun i => ⟨cell_of_heap (hW q' h1 h2), frozen_of_heap (hW q' h1 h2)⟩⟩
  refine ⟨fun L n' hL => ?_, fun d m c hd hc => ?_, fun d m hd => ?_, fun L L' m m' hL hL' ho hne q1 hq1 hq1' => ?_, fun L n' d m hL hd hq1 => ?_, by rw [hbx]; exact h.x3,
    fun L n' q1 o hL ho hc ha => ?_, by rw [hbx]; exact h.srb, fun L n' q1 hL ho hq1 => ?_, fun L n' q1 hL ho hq1 => ?_, hF, h.n0, h.own⟩
  · rcases H L n' hL with ⟨rfl, rfl⟩ | ⟨hne, hb, m, h1, h2, h3⟩
    · exact hn
    · have hk := h3.nodeOk (fun e => h2 ▸ e) (h.node _ _ h1)
      exact hk.world fun q1 hq1 => agree q1 (hk.lt hq1) (fun e => hb (e ▸ hq1))
  · rw [hbx]
    obtain ⟨⟨x, hx⟩, hf⟩ := h.box d m c hd hc
    have e := agree _ (h.boxlt d m hd) (hqb d m hd)
    exact ⟨⟨x, (e.2 _).1.trans hx⟩, (e.2 _).2.trans hf⟩
  · rw [hbx]
    exact Nat.lt_of_lt_of_le (h.boxlt d m hd) hs
  · rcases H L m hL with ⟨rfl, rfl⟩ | ⟨hn1, hb1, m1, h1, h2, h3⟩ <;> rcases H L' m' hL' with ⟨rfl, rfl⟩ | ⟨hn2, hb2, m2, h1', h2', h3'⟩
    · exact hne rfl
    · exact hb2 (hq q1 hq1 ▸ hq1')
    · exact hb1 (hq q1 hq1' ▸ hq1)
    · exact h.x1 _ _ _ _ h1 h1' (h2 ▸ ho) (fun e => hne (inj L L' m m' hn1 hn2 hL hL' ho e)) q1 (h3.blk hq1) (h3'.blk hq1')
  · rw [hbx] at hq1
    rcases H L n' hL with ⟨rfl, rfl⟩ | ⟨hn1, hb1, m1, h1, h2, h3⟩
    · exact hqb d m hd (hq _ hq1)
    · exact h.x2 _ _ d m h1 hd (h3.blk hq1)
  · rcases H L n' hL with ⟨rfl, rfl⟩ | ⟨hn1, hb1, n1, h1, h2, h3⟩
    · exact hsrc q1 o hc ha
    · obtain ⟨q', o', h4, h5⟩ := h3.a hc
      rw [ha] at h5
      obtain ⟨rfl, rfl⟩ : q1 = q' ∧ o = o' + σ L * n1.es := by simpa using h5
      refine (h.src _ _ _ _ h1 (h2 ▸ ho) (by have := h3.cap; omega) h4).imp id fun hk => ⟨hk.1, fun k hlt => ?_⟩
      have hcap : (g.hd (φ L)).cap * n1.es = (g'.hd L).cap * n1.es + σ L * n1.es := by rw [← h3.cap, Nat.add_mul]
      rw [h3.es] at hlt
      have := hk.2 (σ L * n1.es + k) (by omega)
      rwa [← Nat.add_assoc] at this
  · rcases H L n' hL with ⟨rfl, rfl⟩ | ⟨hn1, hb1, n1, h1, h2, h3⟩
    · rw [hro] at ho; cases ho
    · exact h.lent _ _ q1 h1 (h2 ▸ ho) (h3.blk hq1)
  · rcases H L n' hL with ⟨rfl, rfl⟩ | ⟨hn1, hb1, n1, h1, h2, h3⟩
    · rw [hro] at ho; cases ho
    · exact h.stat _ _ q1 h1 (h2 ▸ ho) (h3.blk hq1)

/-- A new root without room. -/
theorem FInv.addEmpty {C : Ctx} {fo : Forest} {b : List (Nat × Nat)} {W : World} {g : Gh} (h : FInv C (atF fo) b W g) {z : Nat} {k : Key} (hk : fo z k = none) (es : Nat) :
    FInv C (atF fun z' k' => if z' = z ∧ k' = k then some ⟨.own, es, []⟩ else fo z' k') b W ⟨fun L => if L = ⟨z, k, []⟩ then ⟨none, 0⟩ else g.hd L, g.bx⟩ := by
  have hat : ∀ L m, atF (fun z' k' => if z' = z ∧ k' = k then some ⟨.own, es, []⟩ else fo z' k') L = some m → (L = ⟨z, k, []⟩ ∧ m = ⟨.own, es, []⟩) ∨ (L.z = z → L.k ≠ k) ∧ atF fo L = some m := by
    intro L m hm
    obtain ⟨z', k', p⟩ := L
    unfold atF at hm
    simp only at hm
    split at hm
    · rename_i e
      obtain ⟨rfl, rfl⟩ := e
      cases p with
      | nil => exact .inl ⟨rfl, (Option.some.inj hm).symm⟩
      | cons s p => simp [walk, cellAt] at hm
    · rename_i e
      exact .inr ⟨fun h1 h2 => e ⟨h1, h2⟩, hm⟩
  have hne : ∀ L : GLoc, (L.z = z → L.k ≠ k) → L ≠ ⟨z, k, []⟩ := fun L hL e => by subst e; exact hL rfl rfl
  refine h.put (q := W.heap.size) (R0 := ⟨z, k, []⟩) (n := ⟨.own, es, []⟩) rfl (fun _ _ _ => rfl) (Nat.le_refl _) h.fr ?_ ?_ rfl (fun d m hd e => by have := h.boxlt d m hd; omega) ?_ id (fun _ => 0) ?_ ?_
  · exact ⟨by simp, by simp, by simp, fun i j t ht => by simp [cellAt] at ht⟩
  · intro q1 hq1; simp [Hd.blk] at hq1
  · intro q1 o hc; simp at hc
  · intro L n' hn'
    rcases hat L n' hn' with h1 | ⟨h1, h2⟩
    · exact .inl h1
    · have e1 := hne L h1
      have e2 : ∀ i j, L.ext i j ≠ ⟨z, k, []⟩ := fun i j => hne _ h1
      refine .inr ⟨e1, ?_, n', h2, rfl, sim_self (h.node _ _ h2) (if_neg e1) (fun i j => if_neg (e2 i j))⟩
      simp only [if_neg e1]
      intro hq
      have := (h.node _ _ h2).lt hq
      omega
  · intro L L' n n' _ _ _ _ _ e
    exact e

/-! Values in a forest that has changed. -/
mutual
theorem VOk.move {g g' : Gh} {fo fo' : NSet} {b b' : List (Nat × Nat)} {p : List Loc}
    (hL : ∀ (L : Loc) n', fo' L.g = some n' → hit p L = false → ∃ n, fo L.g = some n ∧ n'.es = n.es ∧ g'.hd L.g = g.hd L.g)
    (hB : ∀ d m', getB b' d = some m' → hit p (boxLoc d) = false → ∃ m, getB b d = some m ∧ g'.bx d = g.bx d) : ∀ (v : V) (x : Value), VOk g fo b v x → VOk g' fo' b' (pois p v) x
  | .val u, x, h => h
  | .nil, x, h => h
  | .un, x, h => trivial
  | .sl L off len, x, h => by
    simp only [pois]
    split
    · trivial
    · rename_i hh
      obtain ⟨a, c, rfl, h⟩ := h
      refine ⟨a, c, rfl, fun n' hn' => ?_⟩
      obtain ⟨n, h1, h2, h3⟩ := hL L n' hn' (by simpa using hh)
      rw [h3, h2]
      exact h n h1
  | .pt L i c, x, h => by
    simp only [pois]
    split
    · trivial
    · rename_i hh
      obtain ⟨a, rfl, h⟩ := h
      refine ⟨a, rfl, fun n' hn' => ?_⟩
      obtain ⟨n, h1, h2, h3⟩ := hL L n' hn' (by simpa using hh)
      rw [h3, h2]
      exact h n h1
  | .bx d c, x, h => by
    simp only [pois]
    split
    · trivial
    · rename_i hh
      obtain ⟨a, rfl, h⟩ := h
      refine ⟨a, rfl, fun m' hm' => ?_⟩
      obtain ⟨m, h1, h2⟩ := hB d m' hm' (by simpa using hh)
      rw [h2]
      exact h m h1
  | .agg l, x, h => by
    obtain ⟨xs, rfl, h⟩ := h
    exact ⟨xs, rfl, VsOk.move hL hB l xs h⟩
  | .tup l, x, h => by
    obtain ⟨xs, rfl, h⟩ := h
    exact ⟨xs, rfl, VsOk.move hL hB l xs h⟩
  | .fn f l, x, h => by
    obtain ⟨xs, rfl, h⟩ := h
    exact ⟨xs, rfl, VsOk.move hL hB l xs h⟩
theorem VsOk.move {g g' : Gh} {fo fo' : NSet} {b b' : List (Nat × Nat)} {p : List Loc}
    (hL : ∀ (L : Loc) n', fo' L.g = some n' → hit p L = false → ∃ n, fo L.g = some n ∧ n'.es = n.es ∧ g'.hd L.g = g.hd L.g)
    (hB : ∀ d m', getB b' d = some m' → hit p (boxLoc d) = false → ∃ m, getB b d = some m ∧ g'.bx d = g.bx d) : ∀ (l : List V) (xs : List Value), VsOk g fo b l xs → VsOk g' fo' b' (poisL p l) xs
  | [], xs, h => h
  | v :: l, xs, h => by
    obtain ⟨x, ys, rfl, h1, h2⟩ := h
    exact ⟨x, ys, rfl, VOk.move hL hB v x h1, VsOk.move hL hB l ys h2⟩
end

mutual
theorem pois_nil : ∀ v : V, pois [] v = v
  | .val _ => rfl
  | .nil => rfl
  | .un => rfl
  | .sl _ _ _ => rfl
  | .pt _ _ _ => rfl
  | .bx _ _ => rfl
  | .agg l => by simp only [pois, poisL_nil l]
  | .tup l => by simp only [pois, poisL_nil l]
  | .fn f l => by simp only [pois, poisL_nil l]
theorem poisL_nil : ∀ l : List V, poisL [] l = l
  | [] => rfl
  | v :: l => by simp only [poisL, pois_nil v, poisL_nil l]
end

theorem VOk.same {g g' : Gh} {fo fo' : NSet} {b b' : List (Nat × Nat)}
    (hL : ∀ (L : Loc) n', fo' L.g = some n' → ∃ n, fo L.g = some n ∧ n'.es = n.es ∧ g'.hd L.g = g.hd L.g)
    (hB : ∀ d m', getB b' d = some m' → ∃ m, getB b d = some m ∧ g'.bx d = g.bx d) {v : V} {x : Value} (h : VOk g fo b v x) : VOk g' fo' b' v x := by
  have := VOk.move (p := []) (fun L n' h1 _ => hL L n' h1) (fun d m' h1 _ => hB d m' h1) v x h
  rwa [pois_nil] at this

theorem VsOk.same {g g' : Gh} {fo fo' : NSet} {b b' : List (Nat × Nat)}
    (hL : ∀ (L : Loc) n', fo' L.g = some n' → ∃ n, fo L.g = some n ∧ n'.es = n.es ∧ g'.hd L.g = g.hd L.g)
    (hB : ∀ d m', getB b' d = some m' → ∃ m, getB b d = some m ∧ g'.bx d = g.bx d) {l : List V} {xs : List Value} (h : VsOk g fo b l xs) : VsOk g' fo' b' l xs := by
  have := VsOk.move (p := []) (fun L n' h1 _ => hL L n' h1) (fun d m' h1 _ => hB d m' h1) l xs h
  rwa [poisL_nil] at this

theorem VsOk.length {g : Gh} {fo : NSet} {b : List (Nat × Nat)} : ∀ {l : List V} {xs : List Value}, VsOk g fo b l xs → xs.length = l.length
  | [], xs, h => by simp only [VsOk] at h; simp [h]
  | v :: l, xs, h => by obtain ⟨x, ys, rfl, _, h⟩ := h; simp [VsOk.length h]

theorem VsOk.get {g : Gh} {fo : NSet} {b : List (Nat × Nat)} : ∀ {l : List V} {xs : List Value}, VsOk g fo b l xs → ∀ (k : Nat) (v : V), l[k]? = some v → ∃ x, xs[k]? = some x ∧ VOk g fo b v x
  | v :: l, xs, h, k, u, hk => by
    obtain ⟨x, ys, rfl, h1, h2⟩ := h
    cases k with
    | zero => obtain rfl := Option.some.inj hk; exact ⟨x, rfl, h1⟩
    | succ k => exact VsOk.get h2 k u hk

theorem VsOk.mk {g : Gh} {fo : NSet} {b : List (Nat × Nat)} : ∀ {l : List V} {xs : List Value}, xs.length = l.length → (∀ (k : Nat) (v : V) (x : Value), l[k]? = some v → xs[k]? = some x → VOk g fo b v x) → VsOk g fo b l xs
  | [], xs, h, _ => by simpa [VsOk] using h
  | v :: l, [], h, _ => by simp at h
  | v :: l, x :: xs, h, k => ⟨x, xs, rfl, k 0 v x rfl rfl, VsOk.mk (by simpa using h) fun i u y h1 h2 => k (i + 1) u y (by simpa using h1) (by simpa using h2)⟩

theorem VOk.one {g : Gh} {fo : NSet} {b : List (Nat × Nat)} {v : V} {x : Value} (h : VOk g fo b v x) (hs : v.sure = true) : x.oneCell' = true := by
  cases v with
  | val u => rw [h.1]; exact h.2
  | nil => simp only [VOk] at h; rw [h]; rfl
  | sl L o n => obtain ⟨a, c, rfl, _⟩ := h; rfl
  | pt L i c => obtain ⟨a, rfl, _⟩ := h; rfl
  | bx d c => obtain ⟨a, rfl, _⟩ := h; rfl
  | fn f l => obtain ⟨xs, rfl, _⟩ := h; rfl
  | _ => cases hs

end Go.Proofs.Ytekfjbejfondnaa.Tom
/-! Taking several cells' trees. -/
namespace Go.Proofs.Ytekfjbejfondnaa.Tom
open Go

/-- What a state of roots may have lost or changed under what goes on: like nodes under the same names. -/
def Less (r r' : Roots) : Prop := ∀ M m2, nodeAt r' M = some m2 → ∃ m1, nodeAt r M = some m1 ∧ Like m2 m1
theorem Less.refl (r : Roots) : Less r r := fun _ m h => ⟨m, h, Like.refl m⟩
theorem Like.trans {a b c : Node} (h : Like a b) (k : Like b c) : Like a c :=
  ⟨h.ro.trans k.ro, h.es.trans k.es, ⟨h.shape.1.trans k.shape.1, fun i r hr => by
      obtain ⟨s, h1, h2⟩ := h.shape.2 i r hr
      obtain ⟨u, h3, h4⟩ := k.shape.2 i s h1
      exact ⟨u, h3, h4.trans h2⟩⟩, fun i j t ht => by
      obtain ⟨t1, h1, h2⟩ := h.cells i j t ht
      obtain ⟨t2, h3, h4⟩ := k.cells i j t1 h1
      refine ⟨t2, h3, ?_⟩
      cases t with
      | val u => simp only [sameHd] at h2; subst h2; exact h4
      | nil => simp only [sameHd] at h2; subst h2; exact h4
      | arr o es el =>
        obtain ⟨o1, e1, l1, rfl, hl1⟩ := h2
        obtain ⟨o2, e2, l2, rfl, hl2⟩ := h4
        exact ⟨o2, e2, l2, rfl, hl2.trans hl1⟩
      | _ => trivial⟩
theorem Less.trans {a b c : Roots} (h : Less a b) (k : Less b c) : Less a c := fun M m hm => by
  obtain ⟨m1, h1, h2⟩ := k M m hm
  obtain ⟨m2, h3, h4⟩ := h M m1 h1
  exact ⟨m2, h3, h2.trans h4⟩

theorem takeF_ok {C : Ctx} {r r' : Roots} {D : Key → Option Node} {b : List (Nat × Nat)} {W : World} {g : Gh} {v : V} {x : Value} {t : T}
    (h : FInv C (atF (foD r D)) b W g) (hv : VOk g (atF (foD r D)) b v x) (ht : takeC r v = some (t, r')) (f : Option Nat) (kd : Key) (hk : D kd = none) :
    ∃ g', FInv C (atF (foD r' (setK D kd ((t.fat .own f).node .own)))) b W g' ∧ CellOk g' ⟨1, kd, []⟩ (t.fat .own f) x ∧ (v.sure = true → x.oneCell' = true) ∧ g'.bx = g.bx ∧
      (∀ L, ¬ (L.z = 1 ∧ L.k = kd) → g'.hd L = g.hd L) ∧ Less r r' := by
  obtain ⟨g1, h1, h2, h3, h4, h5, h6⟩ := takeC_ok h hv ht kd hk
  by_cases e : t = .nil ∧ f.isSome
  · obtain ⟨rfl, ef⟩ := e
    obtain ⟨es, rfl⟩ := Option.isSome_iff_exists.1 ef
    simp only [T.fat, node_arr]
    have hD : setK D kd (T.nil.node .own) = D := setK_none hk
    rw [hD] at h1
    have hfree : foD r' D 1 kd = none := by simp [foD, hk]
    have e : foD r' (setK D kd (some ⟨.own, es, []⟩)) = fun z' k' => if z' = 1 ∧ k' = kd then some ⟨.own, es, []⟩ else foD r' D z' k' := by
      funext z k
      unfold foD setK
      by_cases hz : z = 0
      · subst hz; simp
      · by_cases hz1 : z = 1
        · subst hz1; simp
        · simp [hz, hz1]
    refine ⟨⟨fun L => if L = ⟨1, kd, []⟩ then ⟨none, 0⟩ else g1.hd L, g1.bx⟩, ?_, ?_, fun hs => hv.one hs, h4, fun L hL => ?_, h6⟩
    · rw [e]; exact h1.addEmpty (z := 1) (k := kd) hfree es
    · simp only [CellOk] at h2 ⊢
      rw [h2]; simp
    · simp only
      rw [if_neg (fun e => by subst e; exact hL ⟨rfl, rfl⟩)]
      exact h5 L hL
  · have ht' : t.fat .own f = t := by
      unfold T.fat
      split
      · exact (e ⟨rfl, rfl⟩).elim
      · rfl
    rw [ht']
    exact ⟨g1, h1, h2, fun hs => hv.one hs, h4, h5, h6⟩

theorem takeCs_ok {C : Ctx} {b : List (Nat × Nat)} {W : World} : ∀ (l : List V) (fs : Fat) (xs : List Value) (r r' : Roots) (D : Key → Option Node) (g : Gh) (ts : List T) (κ : Nat → Key),
    (∀ i j, κ i = κ j → i = j) → FInv C (atF (foD r D)) b W g → VsOk g (atF (foD r D)) b l xs → takeCs r fs l = some (ts, r') → (∀ k, D (κ k) = none) →
    ∃ g' D', FInv C (atF (foD r' D')) b W g' ∧ ts.length = l.length ∧ (∀ (k : Nat) (t : T) (x : Value), ts[k]? = some t → xs[k]? = some x → CellOk g' ⟨1, κ k, []⟩ t x) ∧
      (∀ (k : Nat) (t : T), ts[k]? = some t → D' (κ k) = t.node .own) ∧ (∀ y, (∀ k, k < l.length → y ≠ κ k) → D' y = D y) ∧ g'.bx = g.bx ∧
      (∀ L, (L.z = 1 → ∀ k, k < l.length → L.k ≠ κ k) → g'.hd L = g.hd L) ∧ Less r r' ∧ (l.all V.sure = true → ∀ x ∈ xs, x.oneCell' = true)
  | [], fs, xs, r, r', D, g, ts, κ, hκ, h, hv, ht, hD => by
    obtain ⟨rfl, rfl⟩ := Prod.mk.inj (Option.some.inj ht)
    simp only [VsOk] at hv
    subst hv
    exact ⟨g, D, h, rfl, by simp, by simp, fun _ _ => rfl, rfl, fun _ _ => rfl, Less.refl r, by simp⟩
  | v :: l, fs, xs, r, r', D, g, ts, κ, hκ, h, hv, ht, hD => by
    obtain ⟨x, ys, rfl, hx, hys⟩ := hv
    simp only [takeCs] at ht
    obtain ⟨⟨t, r1⟩, h1, ht⟩ := Option.bind_eq_some_iff.1 ht
    obtain ⟨⟨us, r2⟩, h2, e⟩ := Option.map_eq_some_iff.1 ht
    simp only [Prod.mk.injEq] at e h2
    obtain ⟨rfl, rfl⟩ := e
    obtain ⟨g1, k1, k2, k3, k4, k5, k6⟩ := takeF_ok h hx h1 fs.hd (κ 0) (hD 0)
    have hys1 : VsOk g1 (atF (foD r1 (setK D (κ 0) ((t.fat .own fs.hd).node .own)))) b l ys := hys.same (fun L n' hn => by
      obtain ⟨m1, e1, e2⟩ := k6 L n' hn
      exact ⟨m1, e1, e2.es, k5 _ (by simp [Loc.g])⟩) (fun d m hd => ⟨m, hd, by rw [k4]⟩)
    obtain ⟨g2, D2, q1, q2, q3, q4, q5, q6, q7, q8, q9⟩ := takeCs_ok l fs.tl ys r1 _ _ g1 us (fun k => κ (k + 1)) (fun i j e => by have := hκ _ _ e; omega) k1 hys1 h2
      (fun k => by simp only [setK]; rw [if_neg (fun e => by have := hκ _ _ e; omega)]; exact hD (k + 1))
    have hne : ∀ k, k < l.length → κ 0 ≠ κ (k + 1) := fun k _ e => by have := hκ _ _ e; omega
    refine ⟨g2, D2, q1, by simp [q2], fun k t' x' hk hx' => ?_, fun k t' hk => ?_, fun y hy => ?_, q6.trans k4, fun L hL => ?_, k6.trans q8, fun ha x' hx' => ?_⟩
    · cases k with
      | zero =>
        obtain rfl := Option.some.inj hk
        obtain rfl := Option.some.inj hx'
        exact k2.same (sameHd_refl _) (fun _ _ _ _ => q7 _ (fun _ k hk => hne k hk))
      | succ k => exact q3 k t' x' hk hx'
    · cases k with
      | zero =>
        obtain rfl := Option.some.inj hk
        rw [q5 (κ 0) hne]
        simp [setK]
      | succ k => exact q4 k t' hk
    · rw [q5 y (fun k hk => hy (k + 1) (by simpa using hk))]
      simp only [setK]
      rw [if_neg (hy 0 (by simp))]
    · rw [q7 L (fun hz k hk => hL hz (k + 1) (by simpa using hk))]
      exact k5 L (fun e => hL e.1 0 (by simp) e.2)
    · simp only [List.all_cons, Bool.and_eq_true] at ha
      rcases List.mem_cons.1 hx' with rfl | hx'
      · exact k3 ha.1
      · exact q9 ha.2 x' hx'

/-- Rows: the detached trees are named (i, j). -/
theorem takeRows_ok {C : Ctx} {b : List (Nat × Nat)} {W : World} : ∀ (l : List (List V)) (fs : Fat) (xs : List (List Value)) (r r' : Roots) (D : Key → Option Node) (g : Gh) (ts : List (List T)) (i0 : Nat),
    FInv C (atF (foD r D)) b W g → xs.length = l.length → (∀ (i : Nat) (v : List V) (x : List Value), l[i]? = some v → xs[i]? = some x → VsOk g (atF (foD r D)) b v x) → takeRows r fs l = some (ts, r') → (∀ i j, i0 ≤ i → D (i, j) = none) →
    ∃ g' D', FInv C (atF (foD r' D')) b W g' ∧ ts.length = l.length ∧ (∀ (i : Nat) (row : List T) (v : List V), ts[i]? = some row → l[i]? = some v → row.length = v.length) ∧
      (∀ (i j : Nat) (t : T) (y : List Value) (x : Value), cellAt ts i j = some t → xs[i]? = some y → y[j]? = some x → CellOk g' ⟨1, (i0 + i, j), []⟩ t x) ∧
      (∀ (i j : Nat) (t : T), cellAt ts i j = some t → D' (i0 + i, j) = t.node .own) ∧ (∀ i j, i < i0 → D' (i, j) = D (i, j)) ∧ g'.bx = g.bx ∧
      (∀ L, (L.z = 1 → L.k.1 < i0) → g'.hd L = g.hd L) ∧ Less r r'
  | [], fs, xs, r, r', D, g, ts, i0, h, hl, hv, ht, hD => by
    obtain ⟨rfl, rfl⟩ := Prod.mk.inj (Option.some.inj ht)
    exact ⟨g, D, h, rfl, by simp, by simp [cellAt], by simp [cellAt], fun _ _ _ => rfl, rfl, fun _ _ => rfl, Less.refl r⟩
  | v :: l, fs, xs, r, r', D, g, ts, i0, h, hl, hv, ht, hD => by
    cases xs with
    | nil => simp at hl
    | cons x ys =>
      simp only [takeRows] at ht
      obtain ⟨⟨t, r1⟩, h1, ht⟩ := Option.bind_eq_some_iff.1 ht
      obtain ⟨⟨us, r2⟩, h2, e⟩ := Option.map_eq_some_iff.1 ht
      simp only [Prod.mk.injEq] at e h2
      obtain ⟨rfl, rfl⟩ := e
      have hxv := hv 0 v x rfl rfl
      obtain ⟨g1, D1, k1, k2, k3, k4, k5, k6, k7, k8, k9⟩ := takeCs_ok v fs x r r1 D g t (fun j => (i0, j)) (fun i j e => (Prod.mk.inj e).2) h hxv h1 (fun j => hD i0 j (Nat.le_refl _))
      obtain ⟨g2, D2, q1, q2, q3, q4, q5, q6, q7, q8, q9⟩ := takeRows_ok l fs ys r1 _ D1 g1 us (i0 + 1) k1 (by simpa using hl) (fun i v' x' e1 e2 => by
          refine (hv (i + 1) v' x' (by simpa using e1) (by simpa using e2)).same (fun L n' hn => ?_) (fun d m hd => ⟨m, hd, by rw [k6]⟩)
          obtain ⟨m1, f1, f2⟩ := k8 L n' hn
          exact ⟨m1, f1, f2.es, k7 _ (by simp [Loc.g])⟩) h2
        (fun i j hi => by rw [k5 (i, j) (fun k _ e => by have := (Prod.mk.inj e).1; omega)]; exact hD i j (by omega))
      refine ⟨g2, D2, q1, by simp [q2], fun i row v' hr hv' => ?_, fun i j t' y x' ht' hy hx' => ?_, fun i j t' ht' => ?_, fun i j hi => ?_, q7.trans k6, fun L hL => ?_, k8.trans q9⟩
      · cases i with
        | zero =>
          obtain rfl := Option.some.inj hr
          obtain rfl := Option.some.inj hv'
          exact k2
        | succ i => exact q3 i row v' hr hv'
      · cases i with
        | zero =>
          obtain rfl := Option.some.inj hy
          refine (k3 j t' x' ht' hx').same (sameHd_refl _) (fun _ _ _ _ => q8 _ (fun _ => by simp))
        | succ i =>
          have := q4 i j t' y x' ht' hy hx'
          rwa [show i0 + 1 + i = i0 + (i + 1) by omega] at this
      · cases i with
        | zero => rw [show i0 + 0 = i0 from rfl, q6 i0 j (by omega)]; exact k4 j t' ht'
        | succ i =>
          have := q5 i j t' ht'
          rwa [show i0 + 1 + i = i0 + (i + 1) by omega] at this
      · rw [q6 i j (by omega)]
        exact k5 (i, j) (fun k _ e => by have := (Prod.mk.inj e).1; omega)
      · rw [q8 L (fun hz => by have := hL hz; omega)]
        exact k7 L (fun hz k _ e => by have := hL hz; rw [e] at this; omega)

end Go.Proofs.Ytekfjbejfondnaa.Tom
/-! Detached trees set into a new root, or into cells of an array. -/
namespace Go.Proofs.Ytekfjbejfondnaa.Tom
open Go

def GLoc.app (L : GLoc) (p : Path) : GLoc := ⟨L.z, L.k, L.p ++ p⟩
theorem GLoc.app_nil (L : GLoc) : L.app [] = L := by simp [GLoc.app]
theorem GLoc.app_ext (L : GLoc) (p : Path) (i j : Nat) : (L.app p).ext i j = L.app (p ++ [(i, j)]) := by simp [GLoc.app, GLoc.ext]
theorem GLoc.ext_app (L : GLoc) (i j : Nat) (p : Path) : (L.ext i j).app p = L.app ((i, j) :: p) := by simp [GLoc.app, GLoc.ext]

theorem foR_eq (r : Roots) : foR r = foD r (fun _ => none) := by
  funext z k
  unfold foR foD
  by_cases h : z = 0
  · simp [h]
  · by_cases h1 : z = 1 <;> simp [h, h1]

def graftG (g : Gh) (k : Key) (κ : Nat → Nat → GLoc) (h0 : Hd) : Gh :=
  ⟨fun L => if L.z = 0 ∧ L.k = k then (match L.p with | [] => h0 | (i, j) :: p => g.hd ((κ i j).app p)) else g.hd L, g.bx⟩

def graftφ (k : Key) (κ : Nat → Nat → GLoc) (L : GLoc) : GLoc := if L.z = 0 ∧ L.k = k then (match L.p with | [] => L | (i, j) :: p => (κ i j).app p) else L

theorem graftRoot {C : Ctx} {r : Roots} {D : Key → Option Node} {b : List (Nat × Nat)} {W W' : World} {g : Gh} (h : FInv C (atF (foD r D)) b W g) {k : Key}
    {rows : List (List T)} {es : Nat} (hrows : ∀ row ∈ rows, row.length = es) (κ : Nat → Nat → GLoc) (hκz : ∀ i j, (κ i j).z = 1)
    (hκ : ∀ i j p i' j' p', cellAt rows i j ≠ none → cellAt rows i' j' ≠ none → (κ i j).app p = (κ i' j').app p' → i = i' ∧ j = j' ∧ p = p')
    (hD : ∀ i j t, cellAt rows i j = some t → ∀ p m, (t.node .own).bind (fun n => walk n p) = some m → atF (foD r D) ((κ i j).app p) = some m)
    {q : Nat} (hW : ∀ q', q' < W.heap.size → q' ≠ q → W'.heap[q']? = W.heap[q']?) (hs : W.heap.size ≤ W'.heap.size) (hF : Frame' C W')
    {a : Option Addr} {cap : Nat} (hlen : rows.length ≤ cap)
    (hmem : cap ≠ 0 → ∃ o ty sz, a = some ⟨q, o, none⟩ ∧ W'.shape? q = some (ty, sz) ∧ o + cap * es ≤ sz ∧ ∀ k, k < cap * es → W'.frozen? ⟨q, o + k, none⟩ = false)
    (hcells : ∀ i j t, cellAt rows i j = some t → ∃ o x, a = some ⟨q, o, none⟩ ∧ W'.cell? ⟨q, o + i * es + j, none⟩ = some x ∧ CellOk g (κ i j) t x)
    (hqb : ∀ d m, getB b d = some m → (g.bx d).1 ≠ q) (hq0 : ∀ L n, L.z = 0 → atF (foD r D) L = some n → (g.hd L).blk ≠ some q)
    (hq1 : ∀ i j p n, cellAt rows i j ≠ none → atF (foD r D) ((κ i j).app p) = some n → (g.hd ((κ i j).app p)).blk ≠ some q)
    (hsrc : ∀ o, cap ≠ 0 → a = some ⟨q, o, none⟩ → C.W0.heap.size ≤ q ∨ (C.ob q ∧ ∀ k, k < cap * es → C.own q (o + k))) :
    FInv C (atF (foR ((k, ⟨.own, es, rows⟩) :: r))) b W' (graftG g k κ ⟨a, cap⟩) := by
  have hg0 : (graftG g k κ ⟨a, cap⟩).hd ⟨0, k, []⟩ = ⟨a, cap⟩ := by simp [graftG]
  have hgc : ∀ i j p, (graftG g k κ ⟨a, cap⟩).hd ⟨0, k, (i, j) :: p⟩ = g.hd ((κ i j).app p) := fun i j p => by simp [graftG]
  have hgo : ∀ L : GLoc, ¬ (L.z = 0 ∧ L.k = k) → (graftG g k κ ⟨a, cap⟩).hd L = g.hd L := fun L hL => by simp only [graftG, if_neg hL]
  have hat : ∀ L m, atF (foR ((k, ⟨.own, es, rows⟩) :: r)) L = some m → L = ⟨0, k, []⟩ ∧ m = ⟨.own, es, rows⟩ ∨
      (∃ i j p t, L = ⟨0, k, (i, j) :: p⟩ ∧ cellAt rows i j = some t ∧ atF (foD r D) ((κ i j).app p) = some m) ∨ (L.z = 0 ∧ L.k ≠ k ∧ atF (foD r D) L = some m) := by
    intro L m hm
    obtain ⟨z, k', p⟩ := L
    unfold atF foR at hm
    simp only at hm
    by_cases hz : z = 0
    · subst hz
      simp only [if_true, getR] at hm
      by_cases hk' : k = k'
      · subst hk'
        simp only [if_true, Option.bind_some] at hm
        cases p with
        | nil => exact .inl ⟨rfl, (Option.some.inj hm).symm⟩
        | cons s p =>
          obtain ⟨i, j⟩ := s
          rw [walk_cons] at hm
          obtain ⟨t, h1, h2⟩ := Option.bind_eq_some_iff.1 hm
          exact .inr (.inl ⟨i, j, p, t, rfl, h1, hD i j t h1 p m h2⟩)
      · rw [if_neg hk'] at hm
        exact .inr (.inr ⟨rfl, fun e => hk' e.symm, hm⟩)
    · simp only [hz, if_false, Option.bind_none] at hm
      cases hm
  refine h.put (g' := graftG g k κ ⟨a, cap⟩) rfl hW hs hF (R0 := ⟨0, k, []⟩) (n := ⟨.own, es, rows⟩) ?_ ?_ rfl hqb ?_ (graftφ k κ) (fun _ => 0) ?_ ?_
  · refine ⟨by rw [hg0]; exact hlen, fun hc => ?_, hrows, fun i j t ht => ?_⟩
    · rw [hg0] at hc ⊢
      obtain ⟨o, ty, sz, h1, h2, h3, h4⟩ := hmem hc
      exact ⟨q, o, ty, sz, h1, h2, h3, fun _ => h4⟩
    · obtain ⟨o, x, h1, h2, h3⟩ := hcells i j t ht
      refine ⟨q, o, x, by rw [hg0]; exact h1, h2, h3.same (sameHd_refl _) (fun _ _ _ _ => ?_)⟩
      have := hgc i j []
      rw [GLoc.app_nil] at this
      exact this
  · intro q1 hq
    rw [hg0] at hq
    unfold Hd.blk at hq
    split at hq
    · cases hq
    · rename_i hc
      obtain ⟨o, _, _, h1, _⟩ := hmem hc
      rw [h1] at hq
      simpa using hq.symm
  · intro q1 o hc ha
    rw [hg0] at hc ha ⊢
    obtain ⟨o', _, _, h1, _⟩ := hmem hc
    simp only at ha
    rw [h1] at ha
    obtain ⟨rfl, rfl⟩ : q = q1 ∧ o' = o := by simpa using ha
    exact hsrc o' hc h1
  · intro L m hm
    rcases hat L m hm with h1 | ⟨i, j, p, t, rfl, ht, h2⟩ | ⟨h1, h2, h3⟩
    · exact .inl h1
    · have hφ : graftφ k κ ⟨0, k, (i, j) :: p⟩ = (κ i j).app p := by simp [graftφ]
      refine .inr ⟨by simp, by rw [hgc]; exact hq1 i j p m (by rw [ht]; simp) h2, m, by rw [hφ]; exact h2, rfl, ?_⟩
      rw [hφ]
      refine sim_self (h.node _ _ h2) (hgc i j p) (fun i' j' => ?_)
      rw [GLoc.app_ext]
      exact hgc i j (p ++ [(i', j')])
    · have hL : ¬ (L.z = 0 ∧ L.k = k) := fun e => h2 e.2
      have hφ : graftφ k κ L = L := by simp only [graftφ, if_neg hL]
      refine .inr ⟨fun e => by subst e; exact h2 rfl, by rw [hgo L hL]; exact hq0 L m h1 h3, m, by rw [hφ]; exact h3, rfl, ?_⟩
      rw [hφ]
      exact sim_self (h.node _ _ h3) (hgo L hL) (fun i j => hgo _ hL)
  · intro L L' m m' hL hL' hm hm' ho he
    rcases hat L m hm with h1 | ⟨i, j, p, t, rfl, ht, h2⟩ | ⟨h1, h2, h3⟩
    · exact (hL h1.1).elim
    · rcases hat L' m' hm' with h1' | ⟨i', j', p', t', rfl, ht', h2'⟩ | ⟨h1', h2', h3'⟩
      · exact (hL' h1'.1).elim
      · simp only [graftφ, and_self, if_true] at he
        obtain ⟨rfl, rfl, rfl⟩ := hκ i j p i' j' p' (by rw [ht]; simp) (by rw [ht']; simp) he
        rfl
      · have hn : ¬ (L'.z = 0 ∧ L'.k = k) := fun e => h2' e.2
        simp only [graftφ, and_self, if_true, if_neg hn] at he
        rw [← he] at h1'
        have := hκz i j
        simp only [GLoc.app] at h1'
        omega
    · have hn : ¬ (L.z = 0 ∧ L.k = k) := fun e => h2 e.2
      rcases hat L' m' hm' with h1' | ⟨i', j', p', t', rfl, ht', h2'⟩ | ⟨h1', h2', h3'⟩
      · exact (hL' h1'.1).elim
      · simp only [graftφ, and_self, if_true, if_neg hn] at he
        rw [he] at h1
        have := hκz i' j'
        simp only [GLoc.app] at h1
        omega
      · have hn' : ¬ (L'.z = 0 ∧ L'.k = k) := fun e => h2' e.2
        simpa only [graftφ, if_neg hn, if_neg hn'] using he

/-! Cells written. -/
theorem setCells_heap (b : Nat) : ∀ (vs : List Value) (o : Nat) (w : World) (q : Nat), q ≠ b → (w.setCells b o vs).heap[q]? = w.heap[q]?
  | [], _, _, _, _ => rfl
  | v :: r, o, w, q, h => by
    rw [World.setCells, setCells_heap b r (o + 1) _ q h]
    simp only [World.setCell, Array.getElem?_modify]
    rw [if_neg (fun e => h e.symm)]

theorem setCells_size (b : Nat) : ∀ (vs : List Value) (o : Nat) (w : World), (w.setCells b o vs).heap.size = w.heap.size
  | [], _, _ => rfl
  | v :: r, o, w => by rw [World.setCells, setCells_size b r]; simp

theorem shape_setCell (w : World) (a : Addr) (v : Value) (q : Nat) : (w.setCell a v).shape? q = w.shape? q := by
  unfold World.shape? World.setCell
  simp only [Array.getElem?_modify]
  by_cases e : a.block = q
  · subst e
    simp only [if_true]
    cases w.heap[a.block]? with
    | none => rfl
    | some o =>
      cases o with
      | cells c el fr => simp only [Option.map_some]; split <;> simp
      | _ => rfl
  · simp only [if_neg e]

theorem shape_setCells (b : Nat) : ∀ (vs : List Value) (o : Nat) (w : World) (q : Nat), (w.setCells b o vs).shape? q = w.shape? q
  | [], _, _, _ => rfl
  | v :: r, o, w, q => by rw [World.setCells, shape_setCells b r, shape_setCell]

theorem setCells_rest (b : Nat) : ∀ (vs : List Value) (o : Nat) (w : World), (w.setCells b o vs).os = w.os ∧ (w.setCells b o vs).tape = w.tape ∧ (w.setCells b o vs).output = w.output
  | [], _, _ => ⟨rfl, rfl, rfl⟩
  | v :: r, o, w => by rw [World.setCells]; exact setCells_rest b r (o + 1) _

theorem Frame'.setCells {C : Ctx} {W : World} (h : Frame' C W) {q o : Nat} {xs : List Value} (hs : C.W0.heap.size ≤ q ∨ (C.ob q ∧ ∀ k, k < xs.length → C.own q (o + k))) : Frame' C (W.setCells q o xs) := by
  obtain ⟨e1, e2, e3⟩ := setCells_rest q xs o W
  refine ⟨e1.trans h.os, e2.trans h.tape, e3.trans h.output, by rw [setCells_size]; exact h.size, fun q' hq ho => ?_, fun q' i hq ho => ?_, fun q' hq => ?_, fun q' i hq => ?_⟩
  · by_cases e : q' = q
    · subst e
      rcases hs with hs | hs
      · omega
      · exact (ho hs.1).elim
    · rw [setCells_heap _ _ _ _ _ e]
      exact h.block q' hq ho
  · rw [World.cell?_setCells_out]
    · exact h.cell q' i hq ho
    · intro e1 _
      simp only at e1
      subst e1
      rcases hs with hs | hs
      · omega
      · simp only
        exact Classical.byContradiction fun hx => ho (by have := hs.2 (i - o) (by omega); rwa [show o + (i - o) = i by omega] at this)
  · rw [shape_setCells]; exact h.shape q' hq
  · rw [World.frozen?_setCells]; exact h.frozen q' i hq

/-- Which of the cells from (L, i, c) on a place lies under. -/
def under (L : Loc) (i c n : Nat) (M : GLoc) : Option (Nat × Path) :=
  if M.z = 0 ∧ M.k = L.key ∧ L.path <+: M.p then
    match M.p.drop L.path.length with
    | [] => none
    | (i', j') :: p => if i' = i ∧ c ≤ j' ∧ j' < c + n then some (j' - c, p) else none
  else none

theorem under_some {L : Loc} {i c n : Nat} {M : GLoc} {k : Nat} {p : Path} (h : under L i c n M = some (k, p)) : k < n ∧ M = ⟨0, L.key, L.path ++ (i, c + k) :: p⟩ := by
  unfold under at h
  split at h
  · rename_i h1
    obtain ⟨hz, hk, s, hs⟩ := h1
    obtain ⟨z, k', p'⟩ := M
    simp only at hz hk hs h
    subst hz hk
    rw [← hs, List.drop_left] at h
    cases s with
    | nil => cases h
    | cons x s =>
      obtain ⟨i', j'⟩ := x
      simp only at h
      split at h
      · rename_i h2
        obtain ⟨rfl, h3, h4⟩ := h2
        simp only [Option.some.injEq, Prod.mk.injEq] at h
        obtain ⟨rfl, rfl⟩ := h
        refine ⟨by omega, ?_⟩
        rw [← hs, show c + (j' - c) = j' by omega]
      · cases h
  · cases h

theorem under_mk (L : Loc) {i c n k : Nat} (hk : k < n) (p : Path) : under L i c n ⟨0, L.key, L.path ++ (i, c + k) :: p⟩ = some (k, p) := by
  unfold under
  rw [if_pos ⟨rfl, rfl, List.prefix_append _ _⟩]
  simp only [List.drop_left]
  rw [if_pos ⟨trivial, by omega, by omega⟩]
  simp

def cellsG (g : Gh) (L : Loc) (i c n : Nat) (κ : Nat → GLoc) : Gh :=
  ⟨fun M => match under L i c n M with | some (k, p) => g.hd ((κ k).app p) | none => g.hd M, g.bx⟩
def cellsφ (L : Loc) (i c n : Nat) (κ : Nat → GLoc) (M : GLoc) : GLoc := match under L i c n M with | some (k, p) => (κ k).app p | none => M

theorem graftCells {C : Ctx} {r r2 : Roots} {D : Key → Option Node} {b : List (Nat × Nat)} {W : World} {g : Gh} (h : FInv C (atF (foD r D)) b W g) {L : Loc} {m : Node} (hm : nodeAt r L = some m) (hro : m.ro = .own)
    {i c : Nat} {ts : List T} (hr : modAt r L (putCells i c ts) = some r2) (κ : Nat → GLoc) (hκz : ∀ k, (κ k).z = 1)
    (hκ : ∀ k p k' p', k < ts.length → k' < ts.length → (κ k).app p = (κ k').app p' → k = k' ∧ p = p')
    (hD : ∀ (k : Nat) (t : T), ts[k]? = some t → ∀ p n, (t.node .own).bind (fun n => walk n p) = some n → atF (foD r D) ((κ k).app p) = some n)
    {xs : List Value} (hxl : xs.length = ts.length) (hx : ∀ (k : Nat) (t : T) (x : Value), ts[k]? = some t → xs[k]? = some x → CellOk g (κ k) t x)
    {q o : Nat} (ha : (g.hd L.g).a = some ⟨q, o, none⟩) :
    FInv C (atF (foR r2)) b (W.setCells q (o + i * m.es + c) xs) (cellsG g L i c ts.length κ) := by
  obtain ⟨m', e', h1, h2, h3, h4, h5⟩ := modAt_some (putCells_len i c ts) hr
  obtain rfl : m = m' := by rw [hm] at h1; exact Option.some.inj h1
  obtain ⟨q1, ⟨row, hrow, hfit⟩, q3⟩ := putCells_some h2
  have hmF : atF (foD r D) L.g = some m := hm
  have hok := h.node L.g m hmF
  have hil : i < m.el.length := (List.getElem?_eq_some_iff.1 hrow).1
  have hrl : row.length = m.es := hok.rows row (List.mem_of_getElem? hrow)
  have hcap : (g.hd L.g).cap ≠ 0 := by have := hok.len; omega
  have hbq : (g.hd L.g).blk = some q := blk_of ha hcap
  have hcap2 : (i + 1) * m.es ≤ (g.hd L.g).cap * m.es := Nat.mul_le_mul_right _ (by have := hok.len; omega)
  have hs1 : (i + 1) * m.es = i * m.es + m.es := Nat.succ_mul _ _
  have hsrc := h.src L.g m q o hmF hro hcap ha
  have hgL : (cellsG g L i c ts.length κ).hd L.g = g.hd L.g := by
    simp only [cellsG]
    cases hu : under L i c ts.length L.g with
    | none => rfl
    | some y =>
      have e := (under_some (k := y.1) (p := y.2) hu).2
      simp only [Loc.g, GLoc.mk.injEq] at e
      have := congrArg List.length e.2.2
      simp at this
  -- which nodes there are
  have hat : ∀ M n', atF (foR r2) M = some n' → (M = L.g ∧ n' = ⟨m.ro, m.es, e'⟩) ∨
      (∃ k p t, under L i c ts.length M = some (k, p) ∧ k < ts.length ∧ ts[k]? = some t ∧ atF (foD r D) ((κ k).app p) = some n') ∨
      (M ≠ L.g ∧ M.z = 0 ∧ under L i c ts.length M = none ∧ ∃ n, atF (foD r D) M = some n ∧ Like n' n) := by
    intro M n' hn'
    obtain ⟨z, k', p'⟩ := M
    by_cases hz : z = 0
    · subst hz
      have hn2 : nodeAt r2 ⟨k', p'⟩ = some n' := hn'
      by_cases hpre : k' = L.key ∧ L.path <+: p'
      · obtain ⟨rfl, s, hs⟩ := hpre
        subst hs
        rw [h3 s] at hn2
        cases s with
        | nil =>
          obtain rfl := Option.some.inj hn2
          exact .inl ⟨by simp [Loc.g], rfl⟩
        | cons x s =>
          obtain ⟨i', j'⟩ := x
          rw [walk_cons, q3] at hn2
          split at hn2
          · rename_i hij
            obtain ⟨rfl, hj1, hj2⟩ := hij
            obtain ⟨t, ht, hn3⟩ := Option.bind_eq_some_iff.1 hn2
            have hu := under_mk L (i := i') (c := c) (n := ts.length) (k := j' - c) (by omega) s
            rw [show c + (j' - c) = j' by omega] at hu
            rw [hro] at hn3
            exact .inr (.inl ⟨j' - c, s, t, hu, by omega, ht, hD _ t ht s n' hn3⟩)
          · rename_i hij
            refine .inr (.inr ⟨by simp [Loc.g], rfl, ?_, n', ?_, Like.refl _⟩)
            · cases hu : under L i c ts.length ⟨0, L.key, L.path ++ (i', j') :: s⟩ with
              | none => rfl
              | some y =>
                obtain ⟨e1, e2⟩ := under_some (k := y.1) (p := y.2) hu
                simp only [GLoc.mk.injEq, true_and, List.append_cancel_left_eq, List.cons.injEq, Prod.mk.injEq] at e2
                exact (hij ⟨e2.1.1, by omega, by omega⟩).elim
            · have := atF_append (foD r D) 0 L.key L.path ((i', j') :: s)
              rw [this, show atF (foD r D) ⟨0, L.key, L.path⟩ = some m from hm, Option.bind_some, walk_cons]
              exact hn2
      · have hne : (⟨k', p'⟩ : Loc).key = L.key → ¬ L.path <+: p' := fun e1 e2 => hpre ⟨e1, e2⟩
        obtain ⟨n1, e1, e2⟩ := h4 ⟨k', p'⟩ n' hne hn2
        refine .inr (.inr ⟨fun e => ?_, rfl, ?_, n1, e1, e2⟩)
        · simp only [Loc.g, GLoc.mk.injEq, true_and] at e
          exact hpre ⟨e.1, e.2 ▸ List.prefix_refl _⟩
        · unfold under
          rw [if_neg (fun e => hpre e.2)]
    · unfold atF foR at hn'
      simp only [hz, if_false, Option.bind_none] at hn'
      cases hn'
  have hgu : ∀ M k p, under L i c ts.length M = some (k, p) → (cellsG g L i c ts.length κ).hd M = g.hd ((κ k).app p) := fun M k p hu => by simp only [cellsG, hu]
  have hgo : ∀ M, under L i c ts.length M = none → (cellsG g L i c ts.length κ).hd M = g.hd M := fun M hu => by simp only [cellsG, hu]
  have hext : ∀ M k p i' j', under L i c ts.length M = some (k, p) → under L i c ts.length (M.ext i' j') = some (k, p ++ [(i', j')]) := by
    intro M k p i' j' hu
    obtain ⟨e1, rfl⟩ := under_some hu
    have := under_mk L (i := i) (c := c) e1 (p ++ [(i', j')])
    simpa [GLoc.ext] using this
  have hcell : ∀ k, k < ts.length → ∀ w : World, True → o + i * m.es + c + k < o + (g.hd L.g).cap * m.es := fun k hk _ _ => by omega
  have hsome : ∀ j, j < xs.length → (W.cell? ⟨q, o + i * m.es + c + j, none⟩).isSome = true := by
    intro j hj
    have hj2 : c + j < row.length := by omega
    obtain ⟨q', o', x, f1, f2, _⟩ := hok.cells i (c + j) row[c + j] (by unfold cellAt; rw [hrow]; simp)
    rw [ha] at f1
    obtain ⟨rfl, rfl⟩ : q = q' ∧ o = o' := by simpa using f1
    rw [← Nat.add_assoc] at f2
    rw [f2]; rfl
  have hin := World.cell?_setCells_in q xs (o + i * m.es + c) W hsome
  refine h.put (g' := cellsG g L i c ts.length κ) (q := q) rfl (fun q' _ hne => setCells_heap _ _ _ _ _ hne) (by rw [setCells_size]; exact Nat.le_refl _) (h.fr.setCells ?_) (R0 := L.g) (n := ⟨m.ro, m.es, e'⟩) ?_ ?_ hro
    (fun d n hd e => h.x2 L.g m d n hmF hd (e ▸ hbq)) ?_ (cellsφ L i c ts.length κ) (fun _ => 0) ?_ ?_
  · refine hsrc.imp id fun hk => ⟨hk.1, fun k hlt => ?_⟩
    have := hk.2 (i * m.es + c + k) (by omega)
    rwa [← Nat.add_assoc, ← Nat.add_assoc] at this
  · obtain ⟨qq, oo, ty, sz, f1, f2, f3, f4⟩ := hok.mem hcap
    rw [ha] at f1
    obtain ⟨rfl, rfl⟩ : q = qq ∧ o = oo := by simpa using f1
    refine ⟨by rw [hgL, q1.1]; exact hok.len, fun _ => ⟨q, o, ty, sz, by rw [hgL]; exact ha, by rw [shape_setCells]; exact f2, by rw [hgL]; exact f3, fun hr' k hk => ?_⟩, q1.rows hok.rows, fun i' j' t ht => ?_⟩
    · rw [World.frozen?_setCells]
      rw [hgL] at hk
      exact f4 hr' k hk
    · simp only at ht
      rw [q3] at ht
      split at ht
      · rename_i hij
        obtain ⟨rfl, hj1, hj2⟩ := hij
        have hk : j' - c < xs.length := by omega
        refine ⟨q, o, xs[j' - c], by rw [hgL]; exact ha, ?_, (hx (j' - c) t _ ht (List.getElem?_eq_getElem hk)).same (sameHd_refl _) (fun _ _ _ _ => ?_)⟩
        · have := hin (j' - c) hk
          rwa [show o + i' * m.es + c + (j' - c) = o + i' * m.es + j' by omega] at this
        · have hu := under_mk L (i := i') (c := c) (n := ts.length) (k := j' - c) (by omega) []
          rw [show c + (j' - c) = j' by omega] at hu
          have := hgu _ _ _ hu
          rw [GLoc.app_nil] at this
          exact this
      · rename_i hij
        obtain ⟨q2, o2, x, g1, g2, g3⟩ := hok.cells i' j' t ht
        rw [ha] at g1
        obtain ⟨rfl, rfl⟩ : q = q2 ∧ o = o2 := by simpa using g1
        refine ⟨q, o, x, by rw [hgL]; exact ha, ?_, g3.same (sameHd_refl _) (fun _ _ _ _ => hgo _ ?_)⟩
        · rw [World.cell?_setCells_out]
          · exact g2
          · intro _ _
            simp only
            by_cases e : i' = i
            · subst e
              by_cases hj : j' < c
              · exact .inl (by omega)
              · refine .inr ?_
                have : ¬ j' < c + ts.length := fun hh => hij ⟨rfl, by omega, hh⟩
                omega
            · have hj : j' < m.es := by
                unfold cellAt at ht
                obtain ⟨row', hr1, hr2⟩ := Option.bind_eq_some_iff.1 ht
                have := (List.getElem?_eq_some_iff.1 hr2).1
                rw [hok.rows row' (List.mem_of_getElem? hr1)] at this
                exact this
              rcases Nat.lt_or_gt_of_ne e with e | e
              · have : (i' + 1) * m.es ≤ i * m.es := Nat.mul_le_mul_right _ e
                have e3 : (i' + 1) * m.es = i' * m.es + m.es := Nat.succ_mul _ _
                exact .inl (by omega)
              · have : (i + 1) * m.es ≤ i' * m.es := Nat.mul_le_mul_right _ e
                exact .inr (by omega)
        · cases hu : under L i c ts.length (L.g.ext i' j') with
          | none => rfl
          | some y =>
            obtain ⟨e1, e2⟩ := under_some (k := y.1) (p := y.2) hu
            simp only [Loc.g, GLoc.ext, GLoc.mk.injEq, true_and, List.append_cancel_left_eq, List.cons.injEq, Prod.mk.injEq] at e2
            exact (hij ⟨e2.1.1, by omega, by omega⟩).elim
  · intro q2 hq2
    rw [hgL, hbq] at hq2
    exact (Option.some.inj hq2).symm
  · intro q2 o2 hc2 ha2
    rw [hgL] at hc2 ha2 ⊢
    rw [ha] at ha2
    obtain ⟨rfl, rfl⟩ : q = q2 ∧ o = o2 := by simpa using ha2
    exact hsrc
  · intro M n' hn'
    rcases hat M n' hn' with h6 | ⟨k, p, t, hu, hk, ht, h6⟩ | ⟨h6, hz, hu, n, h7, h8⟩
    · exact .inl h6
    · have hφ : cellsφ L i c ts.length κ M = (κ k).app p := by simp only [cellsφ, hu]
      have hne : (κ k).app p ≠ L.g := fun e => by have := hκz k; have := congrArg GLoc.z e; simp [GLoc.app, Loc.g] at this; omega
      refine .inr ⟨fun e => ?_, ?_, n', by rw [hφ]; exact h6, rfl, ?_⟩
      · obtain ⟨_, e2⟩ := under_some hu
        rw [e] at e2
        simp [Loc.g] at e2
      · rw [hgu _ _ _ hu]
        exact fun hb => h.x1 L.g _ m n' hmF h6 hro (fun e => hne e.symm) q hbq hb
      · rw [hφ]
        refine sim_self (h.node _ _ h6) (hgu _ _ _ hu) (fun i' j' => ?_)
        rw [hgu _ _ _ (hext M k p i' j' hu), GLoc.app_ext]
    · have hφ : cellsφ L i c ts.length κ M = M := by simp only [cellsφ, hu]
      refine .inr ⟨h6, ?_, n, by rw [hφ]; exact h7, h8.ro, ?_⟩
      · rw [hgo _ hu]
        exact fun hb => h.x1 L.g M m n hmF h7 hro (fun e => h6 e.symm) q hbq hb
      · rw [hφ]
        -- a cell of it may lie under the place: then its tree was none before
        refine ⟨h8.es, by rw [hgo _ hu]; rfl, fun hc => ?_, by rw [hgo _ hu, h8.shape.1]; exact (h.node _ _ h7).len, by rw [h8.es]; exact h8.shape.rows (h.node _ _ h7).rows, fun i' j' t ht => ?_⟩
        · rw [hgo _ hu] at hc ⊢
          obtain ⟨qq, oo, _, _, f1, _⟩ := (h.node _ _ h7).mem hc
          exact ⟨qq, oo, f1, by simpa using f1⟩
        · obtain ⟨t1, f1, f2⟩ := h8.cells i' j' t ht
          refine ⟨t1, f1, f2, fun _ _ _ _ => hgo _ ?_⟩
          cases hu2 : under L i c ts.length (M.ext i' j') with
          | none => rfl
          | some y =>
            obtain ⟨e1, e2⟩ := under_some (k := y.1) (p := y.2) hu2
            obtain ⟨z, k', p'⟩ := M
            simp only [GLoc.ext, GLoc.mk.injEq] at e2
            obtain ⟨rfl, rfl, e3⟩ := e2
            cases hy : y.2.reverse with
            | nil =>
              have hy2 : y.2 = [] := by simpa using hy
              rw [hy2] at e3
              have := List.append_inj_left' e3 rfl
              subst this
              exact (h6 rfl).elim
            | cons a l =>
              have hy2 : y.2 = l.reverse ++ [a] := by
                have := congrArg List.reverse hy
                simpa using this
              rw [hy2, ← List.cons_append, ← List.append_assoc] at e3
              have := List.append_inj_left' e3 rfl
              subst this
              rw [under_mk L e1 l.reverse] at hu
              cases hu
  · intro M M' n n' hM hM' hn hn' ho he
    rcases hat M n hn with h6 | ⟨k, p, t, hu, hk, ht, h6⟩ | ⟨h6, hz, hu, _⟩
    · exact (hM h6.1).elim
    · rcases hat M' n' hn' with h6' | ⟨k', p', t', hu', hk', ht', h6'⟩ | ⟨h6', hz', hu', _⟩
      · exact (hM' h6'.1).elim
      · simp only [cellsφ, hu, hu'] at he
        obtain ⟨rfl, rfl⟩ := hκ k p k' p' hk hk' he
        rw [(under_some hu).2, (under_some hu').2]
      · simp only [cellsφ, hu, hu'] at he
        have := hκz k
        rw [← he] at hz'
        simp only [GLoc.app] at hz'
        omega
    · rcases hat M' n' hn' with h6' | ⟨k', p', t', hu', hk', ht', h6'⟩ | ⟨h6', hz', hu', _⟩
      · exact (hM' h6'.1).elim
      · simp only [cellsφ, hu, hu'] at he
        have := hκz k'
        rw [he] at hz
        simp only [GLoc.app] at hz
        omega
      · simpa only [cellsφ, hu, hu'] using he

end Go.Proofs.Ytekfjbejfondnaa.Tom
/-! Operations: what the model's run of one does, beside what the machine does. First: those that only reckon. -/
namespace Go.Proofs.Ytekfjbejfondnaa.Tom
open Go

abbrev nR (r : Roots) : NSet := atF (foR r)

structure Inv (C : Ctx) (S : St) (W : World) (g : Gh) (tm : Nat → Value) : Prop where
  f : FInv C (nR S.r) S.b W g
  e : ∀ t, VOk g (nR S.r) S.b (lk S.e (t, 0)) (tm t)
  c : ∀ d m c x, getB S.b d = some m → c < m → W.cell? ⟨(g.bx d).1, (g.bx d).2 + c, none⟩ = some x → VOk g (nR S.r) S.b (lk S.e (d, c + 1)) x

/-! What is asked of a text: the machine's operands are the model's. -/
def const1 : Value → V → Bool
  | .int k n, .val (.int k' n') => decide (k = k') && decide (n = n')
  | .bool b, .val (.bool b') => b == b'
  | .string s, .val (.string s') => decide (s = s')
  | .nilFunc, .val .nilFunc => true
  | .nilIface, .val .nilIface => true
  | .pointer none, .val (.pointer none) => true
  | .slice none 0 0, .nil => true
  | _, _ => false

def constL : List Value → List V → Bool
  | [], [] => true
  | x :: xs, v :: l => const1 x v && constL xs l
  | _, _ => false

def constB : Value → V → Bool
  | .agg cs, .agg l => constL cs.toList l
  | x, v => const1 x v

def opdB : Operand → Opd → Bool
  | .tmp t, .t i => t == i
  | .const x, .c v => constB x v
  | .func f, .c (.fn k []) => f == k
  | _, _ => false

def opdL : List Operand → List Opd → Bool
  | [], [] => true
  | x :: xs, y :: ys => opdB x y && opdL xs ys
  | _, _ => false

theorem const1_ok {g : Gh} {fo : NSet} {b : List (Nat × Nat)} {x : Value} {v : V} (h : const1 x v = true) : VOk g fo b v x := by
  unfold const1 at h
  split at h <;> simp_all [VOk, Value.oneCell']

theorem constL_ok {g : Gh} {fo : NSet} {b : List (Nat × Nat)} : ∀ {xs : List Value} {l : List V}, constL xs l = true → VsOk g fo b l xs
  | [], [], _ => rfl
  | x :: xs, v :: l, h => by
    simp only [constL, Bool.and_eq_true] at h
    exact ⟨x, xs, rfl, const1_ok h.1, constL_ok h.2⟩
  | [], _ :: _, h => by cases h
  | _ :: _, [], h => by cases h

theorem constB_ok {g : Gh} {fo : NSet} {b : List (Nat × Nat)} {x : Value} {v : V} (h : constB x v = true) : VOk g fo b v x := by
  unfold constB at h
  split at h
  · exact ⟨_, by simp, constL_ok h⟩
  · exact const1_ok h

/-- The values of operands. -/
def evalT (tm : Nat → Value) : Operand → Value
  | .tmp t => tm t
  | .const v => v
  | .global g => .pointer (some ⟨g, 0, none⟩)
  | .func f => .func (.func f) #[] #[]

theorem opd_ok {C : Ctx} {S : St} {W : World} {g : Gh} {tm : Nat → Value} (h : Inv C S W g tm) {x : Operand} {y : Opd} (hx : opdB x y = true) : VOk g (nR S.r) S.b (y.ev S.e) (evalT tm x) := by
  unfold opdB at hx
  split at hx
  · obtain rfl := eq_of_beq hx
    exact h.e _
  · exact constB_ok hx
  · obtain rfl := eq_of_beq hx
    exact ⟨[], rfl, rfl⟩
  · cases hx

theorem opds_ok {C : Ctx} {S : St} {W : World} {g : Gh} {tm : Nat → Value} (h : Inv C S W g tm) : ∀ {xs : List Operand} {ys : List Opd}, opdL xs ys = true → VsOk g (nR S.r) S.b (ys.map (·.ev S.e)) (xs.map (evalT tm))
  | [], [], _ => rfl
  | x :: xs, y :: ys, hx => by
    simp only [opdL, Bool.and_eq_true] at hx
    exact ⟨_, _, rfl, opd_ok h hx.1, opds_ok h hx.2⟩
  | [], _ :: _, h => by cases h
  | _ :: _, [], h => by cases h

/-! Types. -/
def sizeB (P : Program) (t n : Nat) : Bool := match P.info? t with | some i => i.size == n | none => false
theorem sizeB_ok {P : Program} {t n : Nat} (h : sizeB P t n = true) : ∃ i, P.info? t = some i ∧ i.size = n := by
  unfold sizeB at h
  split at h
  · rename_i i hi; exact ⟨i, hi, eq_of_beq h⟩
  · cases h
theorem sizeB_run {P : Program} {t n : Nat} (h : sizeB P t n = true) (W : World) : (sizeOf t).run P W = .ok n W := by
  obtain ⟨i, hi, rfl⟩ := sizeB_ok h
  simp [sizeOf, typeInfo, hi]

theorem und_run {P : Program} {t : Nat} {d : TypeDesc} (h : P.underlying t = some d) (W : World) : (underlying t).run P W = .ok d W := by
  simp [underlying, h]

theorem load_run {P : Program} {W : World} {a : Addr} {x : Value} (h : W.cell? a = some x) : (load a).run P W = .ok x W := by
  simp [load, Sem.run, h]

theorem add_lit (q o n : Nat) : (⟨q, o, none⟩ : Addr).add n = ⟨q, o + n, none⟩ := by
  unfold Addr.add
  split
  · rename_i h; subst h; rfl
  · rfl

end Go.Proofs.Ytekfjbejfondnaa.Tom
