/- Readable arguments are trees that nobody writes; a law's call. Readable arguments, put together; a law's row. A law's call. The trees of a type, opened. -/
import Derived.Test.YtekfjbejfondnaaKe
import Derived.OpenShut
import Derived.WideShapes
import Derived.ChangeShapes
import Derived.ChangeArms
import Derived.ChangeSame
import Derived.Deep.Slices
import Derived.Below
/-! Readable arguments are trees that nobody writes; a law's call. -/
namespace Go.Proofs.Ytekfjbejfondnaa.Tom
open Go

/-- A tree that nobody writes, as memory holds it. -/
def StN (W : World) : Nat → T → Value → Prop
  | 0, _, _ => False
  | _ + 1, .val u, x => x = u ∧ u.oneCell' = true
  | n + 1, .arr ro es el, x => ro = .stat ∧ ∃ a cap, x = .slice a el.length cap ∧ el.length ≤ cap ∧ (cap ≠ 0 → ∃ q o ty sz, a = some ⟨q, o, none⟩ ∧ W.shape? q = some (ty, sz) ∧ o + cap * es ≤ sz) ∧
      (∀ row ∈ el, row.length = es) ∧ ∀ i j t', cellAt el i j = some t' → ∃ q o y, a = some ⟨q, o, none⟩ ∧ W.cell? ⟨q, o + i * es + j, none⟩ = some y ∧ StN W n t' y
  | _ + 1, _, _ => False

theorem StN.up {W : World} : ∀ {n : Nat} {t : T} {x : Value}, StN W n t x → StN W (n + 1) t x
  | 0, _, _, h => h.elim
  | n + 1, .val u, x, h => h
  | n + 1, .arr ro es el, x, h => by
    obtain ⟨h0, a, cap, h1, h2, h3, h4, h5⟩ := h
    refine ⟨h0, a, cap, h1, h2, h3, h4, fun i j t' ht => ?_⟩
    obtain ⟨q, o, y, e1, e2, e3⟩ := h5 i j t' ht
    exact ⟨q, o, y, e1, e2, e3.up⟩
  | n + 1, .nil, _, h => h.elim
  | n + 1, .ptr _, _, h => h.elim
  | n + 1, .agg _, _, h => h.elim
  | n + 1, .fn _ _, _, h => h.elim
  | n + 1, .dead, _, h => h.elim

theorem StN.le {W : World} {n m : Nat} {t : T} {x : Value} (h : StN W n t x) (hm : n ≤ m) : StN W m t x := by
  induction m with
  | zero => obtain rfl : n = 0 := by omega
            exact h
  | succ m ih =>
    by_cases e : n = m + 1
    · exact e ▸ h
    · exact (ih (by omega)).up

/-- The value at a path. -/
def valAt (W : World) : Path → T → Value → Value
  | [], _, x => x
  | (i, j) :: p, .arr _ es el, .slice (some a) _ _ => match cellAt el i j, W.cell? ⟨a.block, a.off + i * es + j, none⟩ with
    | some t', some y => valAt W p t' y
    | _, _ => undef
  | _ :: _, _, _ => undef

theorem StN.walk {W : World} : ∀ {p : Path} {n : Nat} {t : T} {x : Value} {nd m : Node} {ro : Ro}, StN W n t x → t.node ro = some nd → (ro = .own ∨ ro = .stat) → walk nd p = some m →
    ∃ n' el y, StN W n' (.arr .stat m.es el) y ∧ valAt W p t x = y ∧ m.ro = .stat ∧ m.el = el ∧ ∀ q, valAt W (p ++ q) t x = valAt W q (.arr .stat m.es el) y
  | [], n, t, x, nd, m, ro, h, hn, hro, hw => by
    cases n with
    | zero => exact h.elim
    | succ n =>
      cases t <;> try (cases hn; done)
      case arr ro' es el =>
        obtain rfl := Option.some.inj hn
        obtain rfl := Option.some.inj hw
        have h0 := h.1
        subst h0
        refine ⟨n + 1, el, x, h, rfl, ?_, rfl, fun q => rfl⟩
        rcases hro with rfl | rfl <;> rfl
  | (i, j) :: p, n, t, x, nd, m, ro, h, hn, hro, hw => by
    cases n with
    | zero => exact h.elim
    | succ n =>
      cases t <;> try (cases hn; done)
      case arr ro' es el =>
        obtain rfl := Option.some.inj hn
        obtain ⟨h0, a, cap, rfl, h2, h3, h4, h5⟩ := h
        subst h0
        rw [walk_cons] at hw
        obtain ⟨t', ht, hw⟩ := Option.bind_eq_some_iff.1 hw
        obtain ⟨nd', hn', hw⟩ := Option.bind_eq_some_iff.1 hw
        obtain ⟨q, o, y, rfl, e2, e3⟩ := h5 i j t' ht
        have hst : ro.under .stat = .stat := by rcases hro with rfl | rfl <;> rfl
        simp only [hst] at hn'
        obtain ⟨n', el', y', i1, i2, i3, i4, i5⟩ := StN.walk (p := p) e3 hn' (.inr rfl) hw
        have hv : ∀ q', valAt W ((i, j) :: q') (.arr .stat es el) (.slice (some ⟨q, o, none⟩) el.length cap) = valAt W q' t' y := fun q' => by
          simp only [valAt]
          rw [ht, e2]
        exact ⟨n', el', y', i1, (hv p).trans i2, i3, i4, fun q' => by rw [List.cons_append, hv]; exact i5 q'⟩

section
variable {W : World} (tss : List (List T)) (xss : List (List Value))

def statD : Key → Option Node := fun k => (tss[k.1]?).bind fun ts => (ts[k.2]?).bind (T.node .own)
def statG (W : World) : Gh := ⟨fun L => match (tss[L.k.1]?).bind (·[L.k.2]?), (xss[L.k.1]?).bind (·[L.k.2]?) with
  | some t, some x => hdOf (valAt W L.p t x)
  | _, _ => ⟨none, 0⟩, fun _ => (0, 0)⟩

def statC (W : World) : Ctx := ⟨W, W.heap.size, fun _ => False, fun _ _ => False⟩

/-- All the arguments' cells, trees that nobody writes. -/
def StAll (W : World) : Prop := tss.length = xss.length ∧ ∀ (i j : Nat) (ts : List T) (xs : List Value), tss[i]? = some ts → xss[i]? = some xs → ts.length = xs.length ∧ ∀ (t : T) (x : Value), ts[j]? = some t → xs[j]? = some x → ∃ n, StN W n t x

variable {tss xss}

theorem StAll.at (h : StAll tss xss W) {i j : Nat} {ts : List T} {t : T} (h1 : tss[i]? = some ts) (h2 : ts[j]? = some t) : ∃ xs x n, xss[i]? = some xs ∧ xs[j]? = some x ∧ StN W n t x := by
  have hi : i < xss.length := by rw [← h.1]; exact (List.getElem?_eq_some_iff.1 h1).1
  obtain ⟨h3, h4⟩ := h.2 i j ts _ h1 (List.getElem?_eq_getElem hi)
  have hj : j < (xss[i]).length := by rw [← h3]; exact (List.getElem?_eq_some_iff.1 h2).1
  obtain ⟨n, hn⟩ := h4 t _ h2 (List.getElem?_eq_getElem hj)
  exact ⟨_, _, n, List.getElem?_eq_getElem hi, List.getElem?_eq_getElem hj, hn⟩

theorem StAll.inv (h : StAll tss xss W) : FInv (statC W) (atF (foD [] (statD tss))) [] W (statG tss xss W) := by
  have key : ∀ (L : GLoc) (n : Node), atF (foD [] (statD tss)) L = some n → n.ro = .stat ∧ NodeOk (statG tss xss W) W L n := by
    intro L n hn
    obtain ⟨hz, m, hD, hw⟩ := foD_nil hn
    obtain ⟨z, k, p⟩ := L
    simp only at hz hD hw
    subst hz
    unfold statD at hD
    obtain ⟨ts, h1, hD⟩ := Option.bind_eq_some_iff.1 hD
    obtain ⟨t, h2, hD⟩ := Option.bind_eq_some_iff.1 hD
    obtain ⟨xs, x, nn, h3, h4, hst⟩ := h.at h1 h2
    obtain ⟨n', el, y, i1, i2, i3, i4, i5⟩ := hst.walk hD (.inl rfl) hw
    have hg : ∀ q, (statG tss xss W).hd ⟨1, k, p ++ q⟩ = hdOf (valAt W q (.arr .stat n.es el) y) := fun q => by
      simp only [statG, h1, h2, h3, h4, Option.bind_some]
      rw [i5 q]
    have hg0 : (statG tss xss W).hd ⟨1, k, p⟩ = hdOf y := by
      have := hg []
      rwa [List.append_nil] at this
    refine ⟨i3, ?_⟩
    cases n' with
    | zero => exact i1.elim
    | succ n' =>
      obtain ⟨_, a, cap, rfl, j2, j3, j4, j5⟩ := i1
      refine ⟨by rw [hg0, i4]; exact j2, fun hc => ?_, by rw [i4]; exact j4, fun i j t' ht => ?_⟩
      · rw [hg0] at hc ⊢
        obtain ⟨q, o, ty, sz, e1, e2, e3⟩ := j3 hc
        exact ⟨q, o, ty, sz, e1, e2, e3, fun hr => by rw [i3] at hr; cases hr⟩
      · rw [i4] at ht
        obtain ⟨q, o, v, e1, e2, e3⟩ := j5 i j t' ht
        refine ⟨q, o, v, by rw [hg0]; exact e1, e2, ?_⟩
        cases n' with
        | zero => exact e3.elim
        | succ n' =>
          cases t' with
          | val u => exact e3
          | arr ro' es' el' =>
            obtain ⟨_, a', cap', rfl, _⟩ := e3
            have := hg [(i, j)]
            simp only [valAt, e1, ht, e2] at this
            simp only [CellOk]
            rw [show GLoc.ext ⟨1, k, p⟩ i j = ⟨1, k, p ++ [(i, j)]⟩ from rfl, this]
            rfl
          | _ => trivial
  refine ⟨fun L n hn => (key L n hn).2, fun d m c hd => (by cases hd), fun d m hd => (by cases hd), fun L L' n n' hn _ ho => ?_, fun L n d m _ hd => (by cases hd), fun d d' m m' hd => (by cases hd), fun L n q o hn ho => ?_, fun d m hd => (by cases hd), fun L n q hn ho => ?_, fun L n q hn ho hq => (key L n hn).2.lt hq, ⟨rfl, rfl, rfl, Nat.le_refl _, fun _ _ _ => rfl, fun _ _ _ _ => rfl, fun _ _ => rfl, fun _ _ _ => rfl⟩, Nat.le_refl _, fun _ h => h.elim⟩
  · rw [(key L n hn).1] at ho; cases ho
  · rw [(key L n hn).1] at ho; cases ho
  · rw [(key L n hn).1] at ho; cases ho

theorem StAll.cell (h : StAll tss xss W) {i j : Nat} {ts : List T} {xs : List Value} {t : T} {x : Value} (h1 : tss[i]? = some ts) (h2 : ts[j]? = some t) (h3 : xss[i]? = some xs) (h4 : xs[j]? = some x) : CellOk (statG tss xss W) ⟨1, (i, j), []⟩ t x ∧ statD tss (i, j) = t.node .own := by
  refine ⟨?_, by simp [statD, h1, h2]⟩
  obtain ⟨xs', x', n, e1, e2, hst⟩ := h.at h1 h2
  rw [h3] at e1; cases e1
  rw [h4] at e2; cases e2
  have hg : (statG tss xss W).hd ⟨1, (i, j), []⟩ = hdOf x := by simp [statG, h1, h2, h3, h4, valAt]
  cases n with
  | zero => exact hst.elim
  | succ n =>
    cases t with
    | val u => exact hst
    | arr ro es el =>
      obtain ⟨_, a, cap, rfl, _⟩ := hst
      simp only [CellOk, hg, hdOf]
    | _ => exact hst.elim

end

/-! The types' trees. -/
def TyF (r : TypeId → List T → Prop) : List Field → List T → Prop
  | [], ts => ts = []
  | fd :: fs, ts => ∃ a b, ts = a ++ b ∧ r fd.type a ∧ TyF r fs b

def TyT (P : Program) : Nat → TypeId → List T → Prop
  | 0, _, _ => False
  | f + 1, t, ts => match P.underlying t with
    | some (.int k) => ∃ n, ts = [.val (.int k n)] ∧ (Lit.int k n).wf = true
    | some .bool => ∃ b, ts = [.val (.bool b)]
    | some .string => ∃ s, ts = [.val (.string s)] ∧ s.size ≤ maxLen
    | some (.slice e) => ∃ el, ts = [.arr .stat (P.cellsOf e) el] ∧ el.length ≤ maxLen ∧ ∀ row ∈ el, TyT P f e row
    | some (.struct fs) => TyF (TyT P f) fs.toList ts
    | _ => False

def tileB (P : Program) : List Field → Nat → Nat → Bool
  | [], o, n => o == n
  | fd :: fs, o, n => fd.offset == o && tileB P fs (o + P.cellsOf fd.type) n

def shB (P : Program) : Nat → TypeId → Bool
  | 0, _ => false
  | f + 1, t => match P.underlying t with
    | some (.int _) => true
    | some .bool => true
    | some .string => true
    | some (.slice e) => decide (1 ≤ P.cellsOf e) && shB P f e
    | some (.struct fs) => tileB P fs.toList 0 (P.cellsOf t) && fs.toList.all fun fd => shB P f fd.type
    | _ => false

def isStr (P : Program) (t : TypeId) : Bool := match P.underlying t with | some (.struct _) => true | _ => false

/-- The arguments' trees. -/
def ArgTy (P : Program) (f : Nat) : List TypeId → List T → Prop
  | [], as => as = []
  | t :: l, as => ∃ ts a as', as = a :: as' ∧ TyT P f t ts ∧ (if isStr P t then a = .agg ts else ts = [a]) ∧ ArgTy P f l as'

section
variable {H : Type} {enc : TypeId × Value → H} {P : Program} {W : World}

theorem add_addr (a : Addr) (n : Nat) (hs : a.spot = none) : a.add n = ⟨a.block, a.off + n, none⟩ := by
  obtain ⟨q, o, s⟩ := a
  simp only at hs
  subst hs
  exact add_lit q o n

theorem shape_of_cell {q i : Nat} {v : Value} (h : W.cell? ⟨q, i, none⟩ = some v) : ∃ ty sz, W.shape? q = some (ty, sz) ∧ i < sz := by
  unfold World.cell? at h
  unfold World.shape?
  split at h
  · rename_i c e f hb
    simp only [Option.isSome_none, Bool.false_eq_true, if_false] at h
    simp only at hb
    rw [hb]
    exact ⟨e, c.size, rfl, (Array.getElem?_eq_some_iff.1 h).1⟩
  · cases h

theorem spot_of_cell {a : Addr} {v : Value} (h : W.cell? a = some v) : a.spot = none := by
  unfold World.cell? at h
  split at h
  · split at h
    · cases h
    · rename_i hs; simpa using hs
  · cases h

theorem fields_of {fuel : Nat} {f : Nat} {cs : List Value} (IH : ∀ (t : TypeId) (cs : List Value) (x : DataW H × List MemPlace), DataW.trod enc P W 0 (fun _ => true) true fuel t cs = some x → shB P f t = true → cs.length = P.cellsOf t → ∃ n ts, TyT P n t ts ∧ ts.length = cs.length ∧ ∀ (i : Nat) (t' : T) (v : Value), ts[i]? = some t' → cs[i]? = some v → StN W n t' v) :
    ∀ (fs : List Field) (o : Nat), tileB P fs o cs.length = true → (fs.all fun fd => shB P f fd.type) = true → (∀ fd ∈ fs, ∃ x, DataW.trod enc P W 0 (fun _ => true) true fuel fd.type ((cs.drop fd.offset).take (P.cellsOf fd.type)) = some x) →
      ∃ n ts, TyF (TyT P n) fs ts ∧ o + ts.length = cs.length ∧ ∀ (i : Nat) (t' : T) (v : Value), ts[i]? = some t' → cs[o + i]? = some v → StN W n t' v
  | [], o, h1, _, _ => by
    simp only [tileB, beq_iff_eq] at h1
    exact ⟨0, [], rfl, by simpa using h1, by simp⟩
  | fd :: fs, o, h1, h2, h3 => by
    simp only [tileB, Bool.and_eq_true, beq_iff_eq] at h1
    simp only [List.all_cons, Bool.and_eq_true] at h2
    obtain ⟨n2, ts2, i1, i2, i3⟩ := fields_of IH fs (o + P.cellsOf fd.type) h1.2 h2.2 fun fd' hfd => h3 fd' (List.mem_cons_of_mem _ hfd)
    obtain ⟨x, hx⟩ := h3 fd List.mem_cons_self
    rw [h1.1] at hx
    have hlen : ((cs.drop o).take (P.cellsOf fd.type)).length = P.cellsOf fd.type := by
      rw [List.length_take, List.length_drop]; omega
    obtain ⟨n1, ts1, j1, j2, j3⟩ := IH _ _ _ hx h2.1 hlen
    refine ⟨max n1 n2, ts1 ++ ts2, ⟨ts1, ts2, rfl, tyT_le j1 (Nat.le_max_left _ _), tyF_le i1 (Nat.le_max_right _ _)⟩, by rw [List.length_append, j2, hlen]; omega, fun i t' v ht hv => ?_⟩
    by_cases hi : i < ts1.length
    · rw [List.getElem?_append_left hi] at ht
      refine (j3 i t' v ht ?_).le (Nat.le_max_left _ _)
      rw [List.getElem?_take, if_pos (by rw [← hlen, ← j2]; exact hi), List.getElem?_drop]
      exact hv
    · rw [List.getElem?_append_right (by omega)] at ht
      refine (i3 (i - ts1.length) t' v ht ?_).le (Nat.le_max_right _ _)
      rw [j2, hlen] at hi ⊢
      rw [show o + P.cellsOf fd.type + (i - P.cellsOf fd.type) = o + i by omega]
      exact hv
where
  tyT_up : ∀ {n : Nat} {t : TypeId} {ts : List T}, TyT P n t ts → TyT P (n + 1) t ts
    | 0, _, _, h => h.elim
    | n + 1, t, ts, h => by
      unfold TyT at h ⊢
      split at h <;> simp_all only
      · obtain ⟨el, h1, h2, h3⟩ := h
        exact ⟨el, h1, h2, fun row hr => tyT_up (h3 row hr)⟩
      · exact tyF_up (n := n) (fun t ts h => tyT_up h) h
  tyF_up {n : Nat} (H : ∀ (t : TypeId) (ts : List T), TyT P n t ts → TyT P (n + 1) t ts) : ∀ {fs : List Field} {ts : List T}, TyF (TyT P n) fs ts → TyF (TyT P (n + 1)) fs ts
    | [], _, h => h
    | fd :: fs, ts, h => by
      obtain ⟨a, b, h1, h2, h3⟩ := h
      exact ⟨a, b, h1, H _ _ h2, tyF_up H h3⟩
  tyT_le {n m : Nat} {t : TypeId} {ts : List T} (h : TyT P n t ts) (hm : n ≤ m) : TyT P m t ts := by
    induction m with
    | zero => obtain rfl : n = 0 := by omega
              exact h
    | succ m ih =>
      by_cases e : n = m + 1
      · exact e ▸ h
      · exact tyT_up (ih (by omega))
  tyF_le {n m : Nat} {fs : List Field} {ts : List T} (h : TyF (TyT P n) fs ts) (hm : n ≤ m) : TyF (TyT P m) fs ts := by
    induction m with
    | zero => obtain rfl : n = 0 := by omega
              exact h
    | succ m ih =>
      by_cases e : n = m + 1
      · exact e ▸ h
      · exact tyF_up (fun t ts h => tyT_up h) (ih (by omega))

end
end Go.Proofs.Ytekfjbejfondnaa.Tom
/-! Readable arguments, put together; a law's row. -/
namespace Go.Proofs.Ytekfjbejfondnaa.Tom
open Go

section
variable {H : Type} {enc : TypeId × Value → H} {P : Program} {W : World}

theorem addr_lit (a : Addr) (hs : a.spot = none) : a = ⟨a.block, a.off, none⟩ := by
  obtain ⟨q, o, s⟩ := a
  simp only at hs
  subst hs
  rfl

theorem tree_of : ∀ (f : Nat) (fuel : Nat) (t : TypeId) (cs : List Value) (x : DataW H × List MemPlace), DataW.trod enc P W 0 (fun _ => true) true fuel t cs = some x → shB P f t = true → (isStr P t = true → cs.length = P.cellsOf t) →
    ∃ n ts, TyT P n t ts ∧ ts.length = cs.length ∧ ∀ (i : Nat) (t' : T) (v : Value), ts[i]? = some t' → cs[i]? = some v → StN W n t' v := by
  intro f
  induction f with
  | zero => intro fuel t cs x _ h; cases h
  | succ f ih =>
    intro fuel t cs x h hs hl
    unfold shB at hs
    split at hs
    · rename_i k ht
      obtain ⟨n, rfl, _, hw⟩ := DataW.trod_int ht h
      refine ⟨1, [.val (.int k n)], by unfold TyT; simp only [ht]; exact ⟨n, rfl, hw⟩, rfl, fun i t' v h1 h2 => ?_⟩
      cases i with
      | zero => cases h1; cases h2; exact ⟨rfl, rfl⟩
      | succ i => simp at h1
    · rename_i ht
      obtain ⟨b, rfl, _⟩ := DataW.trod_bool ht h
      refine ⟨1, [.val (.bool b)], by unfold TyT; simp only [ht]; exact ⟨b, rfl⟩, rfl, fun i t' v h1 h2 => ?_⟩
      cases i with
      | zero => cases h1; cases h2; exact ⟨rfl, rfl⟩
      | succ i => simp at h1
    · rename_i ht
      obtain ⟨s, rfl, _, hw⟩ := DataW.trod_string ht h
      refine ⟨1, [.val (.string s)], by unfold TyT; simp only [ht]; exact ⟨s, rfl, hw⟩, rfl, fun i t' v h1 h2 => ?_⟩
      cases i with
      | zero => cases h1; cases h2; exact ⟨rfl, rfl⟩
      | succ i => simp at h1
    · rename_i e ht
      simp only [Bool.and_eq_true, decide_eq_true_eq] at hs
      obtain ⟨hs1, hs2⟩ := hs
      rcases Deep.open_slice ht h with ⟨rfl, _⟩ | ⟨a, len, cap, m, n, D, Pl, rfl, _, hlc, hcm, hm, _, hx⟩
      · refine ⟨1, [.arr .stat (P.cellsOf e) []], by unfold TyT; simp only [ht]; exact ⟨[], rfl, Nat.zero_le _, by simp⟩, rfl, fun i t' v h1 h2 => ?_⟩
        cases i with
        | zero =>
          cases h1; cases h2
          exact ⟨rfl, none, 0, rfl, Nat.le_refl _, fun h => (h rfl).elim, by simp, fun i j t' ht' => by simp [cellAt] at ht'⟩
        | succ i => simp at h1
      · simp only [if_true] at hm
        rw [hm] at hx
        have hspot : cap ≠ 0 → a.spot = none := fun hc => by
          obtain ⟨cs', h1, _⟩ := hx 0 (by omega)
          obtain ⟨_, _, h3⟩ := World.cells?_some h1
          have hc0 := h3 0 (by omega)
          simp only [Nat.zero_mul] at hc0
          have : (a.add 0).add 0 = a := by simp [Addr.add]
          rw [this] at hc0
          obtain ⟨v, hv⟩ : ∃ v, cs'[0]? = some v := ⟨_, List.getElem?_eq_getElem (by have := (World.cells?_some h1).2.1; omega)⟩
          rw [hv] at hc0
          exact spot_of_cell hc0
        have hcell : ∀ i j, i < cap → j < P.cellsOf e → ∃ cs', DataW.trod enc P W 0 (fun _ => true) true n e cs' = some (D i, Pl i) ∧ cs'.length = P.cellsOf e ∧ ∀ j v, cs'[j]? = some v → W.cell? ⟨a.block, a.off + i * P.cellsOf e + j, none⟩ = some v := fun i j hi hj => by
          obtain ⟨cs', h1, h2⟩ := hx i hi
          obtain ⟨_, h4, h3⟩ := World.cells?_some h1
          refine ⟨cs', h2, h4, fun j v hv => ?_⟩
          have hjl : j < P.cellsOf e := by rw [← h4]; exact (List.getElem?_eq_some_iff.1 hv).1
          have := h3 j hjl
          rw [Deep.add_add, add_addr a _ (hspot (by omega)), hv] at this
          rwa [Nat.add_assoc]
        -- rows, one by one
        have rows : ∀ len, len ≤ cap → ∃ n2 el, el.length = len ∧ (∀ row ∈ el, TyT P n2 e row ∧ row.length = P.cellsOf e) ∧ ∀ (i j : Nat) (t' : T), cellAt el i j = some t' → ∃ y, W.cell? ⟨a.block, a.off + i * P.cellsOf e + j, none⟩ = some y ∧ StN W n2 t' y := by
          intro len
          induction len with
          | zero => intro _; exact ⟨0, [], rfl, by simp, fun i j t' ht' => by simp [cellAt] at ht'⟩
          | succ len ihl =>
            intro hle
            obtain ⟨n2, el, e1, e2, e3⟩ := ihl (by omega)
            obtain ⟨cs', c1, c2, c3⟩ := hcell len 0 (by omega) (by omega)
            obtain ⟨n3, ts, d1, d2, d3⟩ := ih n e cs' _ c1 hs2 (fun _ => c2)
            refine ⟨max n2 n3, el ++ [ts], by simp [e1], fun row hr => ?_, fun i j t' ht' => ?_⟩
            · rcases List.mem_append.1 hr with hr | hr
              · exact ⟨fields_of.tyT_le (e2 row hr).1 (Nat.le_max_left _ _), (e2 row hr).2⟩
              · simp only [List.mem_singleton] at hr
                subst hr
                exact ⟨fields_of.tyT_le d1 (Nat.le_max_right _ _), d2.trans c2⟩
            · rw [cellAt_append] at ht'
              split at ht'
              · obtain ⟨y, h1, h2⟩ := e3 i j t' ht'
                exact ⟨y, h1, h2.le (Nat.le_max_left _ _)⟩
              · rename_i hil
                have hi0 : i - el.length = 0 := by
                  have := cellAt_lt ht'
                  simp only [List.length_singleton] at this
                  omega
                obtain rfl : i = len := by omega
                rw [hi0] at ht'
                have ht2 : ts[j]? = some t' := by simpa [cellAt] using ht'
                obtain ⟨v, hv⟩ : ∃ v, cs'[j]? = some v := ⟨_, List.getElem?_eq_getElem (by rw [← d2]; exact (List.getElem?_eq_some_iff.1 ht2).1)⟩
                exact ⟨v, c3 j v hv, (d3 j t' v ht2 hv).le (Nat.le_max_right _ _)⟩
        obtain ⟨n2, el, e1, e2, e3⟩ := rows len hlc
        refine ⟨n2 + 1, [.arr .stat (P.cellsOf e) el], by unfold TyT; simp only [ht]; exact ⟨el, rfl, by omega, fun row hr => (e2 row hr).1⟩, rfl, fun i t' v h1 h2 => ?_⟩
        cases i with
        | zero =>
          cases h1; cases h2
          refine ⟨rfl, some a, cap, by rw [e1], by omega, fun hc => ?_, fun row hr => (e2 row hr).2, fun i j t' ht' => ?_⟩
          · obtain ⟨cs', c1, c2, c3⟩ := hcell (cap - 1) 0 (by omega) (by omega)
            obtain ⟨v, hv⟩ : ∃ v, cs'[P.cellsOf e - 1]? = some v := ⟨_, List.getElem?_eq_getElem (by omega)⟩
            obtain ⟨ty, sz, s1, s2⟩ := shape_of_cell (c3 _ v hv)
            refine ⟨a.block, a.off, ty, sz, congrArg some (addr_lit a (hspot hc)), s1, ?_⟩
            have : cap * P.cellsOf e = (cap - 1) * P.cellsOf e + P.cellsOf e := by
              rw [← Nat.succ_mul]; congr 1; omega
            omega
          · obtain ⟨y, h1, h2⟩ := e3 i j t' ht'
            have hil := cellAt_lt ht'
            refine ⟨a.block, a.off, y, congrArg some (addr_lit a (hspot (by omega))), h1, h2⟩
        | succ i => simp at h1
    · rename_i fs ht
      simp only [Bool.and_eq_true] at hs
      obtain ⟨xs, n, _, _, hl', hlen, hf⟩ := DataW.trod_struct ht h
      obtain ⟨n2, ts, h1, h2, h3⟩ := fields_of (cs := cs) (fuel := n) (f := f) (fun t cs x h hs hl => ih n t cs x h hs (fun _ => hl)) fs.toList 0 (by rw [hl (by unfold isStr; rw [ht])]; exact hs.1) hs.2 (fun fd hfd => by
        obtain ⟨i, hi⟩ := List.mem_iff_getElem?.1 hfd
        have hil : i < xs.length := by rw [hlen]; exact (List.getElem?_eq_some_iff.1 hi).1
        exact ⟨xs[i], (hf i fd (by simpa using hi)).trans (List.getElem?_eq_getElem hil)⟩)
      exact ⟨n2 + 1, ts, by unfold TyT; simp only [ht]; exact h1, by omega, fun i t' v a b => (h3 i t' v a (by rw [Nat.zero_add]; exact b)).up⟩
    · cases hs

/-- The cells of an argument. -/
theorem cells_of {r : Reach} {b0 : Nat} {t : TypeId} {v : Value} {f : Nat} (hs : shB P f t = true) (hv : Value.okWide P W r b0 t v) : (isStr P t = true → v = .agg v.cells ∧ v.cells.toList.length = P.cellsOf t) ∧ (isStr P t = false → v.cells.toList = [v]) := by
  cases f with
  | zero => cases hs
  | succ f =>
    unfold shB at hs
    unfold isStr
    split at hs
    · rename_i k ht; rw [ht]; obtain ⟨n, rfl⟩ := WideShapes.okWide_int ht hv; simp [Value.cells]
    · rename_i ht; rw [ht]; obtain ⟨n, rfl⟩ := WideShapes.okWide_bool ht hv; simp [Value.cells]
    · rename_i ht; rw [ht]; obtain ⟨n, rfl⟩ := WideShapes.okWide_string ht hv; simp [Value.cells]
    · rename_i ht; rw [ht]; obtain ⟨a, l, c, rfl⟩ := WideShapes.okWide_slice ht hv; simp [Value.cells]
    · rename_i fs ht; rw [ht]; obtain ⟨cs, rfl, h2⟩ := WideShapes.okWide_struct ht hv; simp [Value.cells, h2]
    · cases hs

/-- One argument. -/
def ArgR (W : World) (n : Nat) (a : T) (v : Value) (ts : List T) (xs : List Value) : Prop :=
  ts.length = xs.length ∧ (∀ (j : Nat) (t : T) (x : Value), ts[j]? = some t → xs[j]? = some x → StN W n t x) ∧ ((a = .agg ts ∧ v = .agg xs.toArray) ∨ (ts = [a] ∧ xs = [v] ∧ StN W n a v))

def ArgRs (W : World) (n : Nat) : List T → List Value → List (List T) → List (List Value) → Prop
  | [], [], [], [] => True
  | a :: as, v :: vs, ts :: tss, xs :: xss => ArgR W n a v ts xs ∧ ArgRs W n as vs tss xss
  | _, _, _, _ => False

theorem ArgRs.get {n : Nat} : ∀ {as : List T} {vs : List Value} {tss : List (List T)} {xss : List (List Value)}, ArgRs W n as vs tss xss → tss.length = as.length ∧ xss.length = as.length ∧ vs.length = as.length ∧
    ∀ (j : Nat) (a : T), as[j]? = some a → ∃ v ts xs, vs[j]? = some v ∧ tss[j]? = some ts ∧ xss[j]? = some xs ∧ ArgR W n a v ts xs
  | [], [], [], [], _ => ⟨rfl, rfl, rfl, by simp⟩
  | a :: as, v :: vs, ts :: tss, xs :: xss, h => by
    obtain ⟨i1, i2, i3, i4⟩ := ArgRs.get h.2
    refine ⟨by simp [i1], by simp [i2], by simp [i3], fun j b hb => ?_⟩
    cases j with
    | zero => cases hb; exact ⟨v, ts, xs, rfl, rfl, rfl, h.1⟩
    | succ j =>
      obtain ⟨v', ts', xs', h1, h2, h3, h4⟩ := i4 j b (by simpa using hb)
      exact ⟨v', ts', xs', by simpa using h1, by simpa using h2, by simpa using h3, h4⟩
  | [], _ :: _, _, _, h => by simp [ArgRs] at h
  | [], [], _ :: _, _, h => by simp [ArgRs] at h
  | [], [], [], _ :: _, h => by simp [ArgRs] at h
  | _ :: _, [], _, _, h => by simp [ArgRs] at h
  | _ :: _, _ :: _, [], _, h => by simp [ArgRs] at h
  | _ :: _, _ :: _, _ :: _, [], h => by simp [ArgRs] at h

theorem ArgTy.le {n m : Nat} (hm : n ≤ m) : ∀ {l : List TypeId} {as : List T}, ArgTy P n l as → ArgTy P m l as
  | [], _, h => h
  | t :: l, as, h => by
    obtain ⟨ts, a, as', h1, h2, h3, h4⟩ := h
    exact ⟨ts, a, as', h1, fields_of.tyT_le h2 hm, h3, ArgTy.le hm h4⟩

theorem ArgRs.le {n m : Nat} (hm : n ≤ m) : ∀ {as : List T} {vs : List Value} {tss : List (List T)} {xss : List (List Value)}, ArgRs W n as vs tss xss → ArgRs W m as vs tss xss
  | [], [], [], [], _ => trivial
  | a :: as, v :: vs, ts :: tss, xs :: xss, h => by
    obtain ⟨h1, h2, h3⟩ := h.1
    exact ⟨⟨h1, fun j t x e1 e2 => (h2 j t x e1 e2).le hm, h3.imp id fun ⟨e1, e2, e3⟩ => ⟨e1, e2, e3.le hm⟩⟩, ArgRs.le hm h.2⟩
  | [], _ :: _, _, _, h => by simp [ArgRs] at h
  | [], [], _ :: _, _, h => by simp [ArgRs] at h
  | [], [], [], _ :: _, h => by simp [ArgRs] at h
  | _ :: _, [], _, _, h => by simp [ArgRs] at h
  | _ :: _, _ :: _, [], _, h => by simp [ArgRs] at h
  | _ :: _, _ :: _, _ :: _, [], h => by simp [ArgRs] at h

theorem args_of {r : Reach} {b0 f : Nat} : ∀ {ts : List TypeId} {vs : List Value} {ds : List (DataW H)} {ps : List MemPlace}, DataW.TrodAll enc P W 0 (fun _ => true) true ts vs ds ps → ts.all (shB P f) = true → (∀ (j : Nat) t v, ts[j]? = some t → vs[j]? = some v → Value.okWide P W r b0 t v) →
    ∃ n as tss xss, ArgTy P n ts as ∧ ArgRs W n as vs tss xss
  | [], vs, ds, ps, h, _, _ => by
    obtain ⟨rfl, _, _⟩ := ChangeShapes.trodAll_nil h
    exact ⟨0, [], [], [], rfl, trivial⟩
  | t :: ts, vs, ds, ps, h, hs, hv => by
    obtain ⟨v, vs', d, ds', p, q, rfl, _, _, h1, h2⟩ := trodAll_cons' h
    simp only [List.all_cons, Bool.and_eq_true] at hs
    obtain ⟨n1, as, tss, xss, i1, i2⟩ := args_of h2 hs.2 fun j t' v' e1 e2 => hv (j + 1) t' v' (by simpa using e1) (by simpa using e2)
    obtain ⟨fuel, hf⟩ := h1
    obtain ⟨c1, c2⟩ := cells_of hs.1 (hv 0 t v rfl rfl)
    cases hst : isStr P t with
    | true =>
      obtain ⟨e1, e2⟩ := c1 hst
      obtain ⟨n2, us, j1, j2, j3⟩ := tree_of f fuel t _ _ hf hs.1 (fun _ => e2)
      refine ⟨max n1 n2, .agg us :: as, us :: tss, v.cells.toList :: xss, ⟨us, _, as, rfl, fields_of.tyT_le j1 (Nat.le_max_right _ _), by rw [hst]; rfl, i1.le (Nat.le_max_left _ _)⟩, ⟨j2, fun j t' x a b => (j3 j t' x a b).le (Nat.le_max_right _ _), .inl ⟨rfl, by simpa using e1⟩⟩, i2.le (Nat.le_max_left _ _)⟩
    | false =>
      have e1 := c2 hst
      rw [e1] at hf
      obtain ⟨n2, us, j1, j2, j3⟩ := tree_of f fuel t _ _ hf hs.1 (fun h => by rw [hst] at h; cases h)
      match us, j2 with
      | [u], _ =>
        refine ⟨max n1 n2, u :: as, [u] :: tss, [v] :: xss, ⟨[u], u, as, rfl, fields_of.tyT_le j1 (Nat.le_max_right _ _), by rw [hst]; rfl, i1.le (Nat.le_max_left _ _)⟩, ⟨rfl, fun j t' x a b => (j3 j t' x a b).le (Nat.le_max_right _ _), .inr ⟨rfl, rfl, (j3 0 u v rfl rfl).le (Nat.le_max_right _ _)⟩⟩, i2.le (Nat.le_max_left _ _)⟩
where
  trodAll_cons' {t : TypeId} {ts : List TypeId} {vs : List Value} {ds : List (DataW H)} {ps : List MemPlace} (h : DataW.TrodAll enc P W 0 (fun _ => true) true (t :: ts) vs ds ps) :
      ∃ v vs' d ds' p q, vs = v :: vs' ∧ ds = d :: ds' ∧ ps = p ++ q ∧ DataW.Trod enc P W 0 (fun _ => true) true t v d p ∧ DataW.TrodAll enc P W 0 (fun _ => true) true ts vs' ds' q := ChangeShapes.trodAll_cons h
end
end Go.Proofs.Ytekfjbejfondnaa.Tom
/-! A law's call. -/
namespace Go.Proofs.Ytekfjbejfondnaa.Tom
open Go Go.RowKit

section
variable {H : Type} {enc : TypeId × Value → H} {P : Program} {W : World} {sig : Nat → List (Nat × Nat)} {F : Fun}

theorem argRs_all {n : Nat} {as : List T} {vs : List Value} {tss : List (List T)} {xss : List (List Value)} (h : ArgRs W n as vs tss xss) : StAll tss xss W ∧ ArgsOk (statG tss xss W) (statD tss) [] W 0 as vs := by
  obtain ⟨h1, h2, h3, h4⟩ := h.get
  have hst : StAll tss xss W := by
    refine ⟨h1.trans h2.symm, fun i j ts xs e1 e2 => ?_⟩
    have hi : i < as.length := by rw [← h1]; exact (List.getElem?_eq_some_iff.1 e1).1
    obtain ⟨v, ts', xs', _, f2, f3, f4⟩ := h4 i _ (List.getElem?_eq_getElem hi)
    rw [e1] at f2; cases f2
    rw [e2] at f3; cases f3
    exact ⟨f4.1, fun t x a b => ⟨n, f4.2.1 j t x a b⟩⟩
  refine ⟨hst, ?_⟩
  have key : ∀ (t0 : Nat) (bs : List T) (ys : List Value), (∀ t a, bs[t]? = some a → ∃ x, ys[t]? = some x ∧ AOk (statG tss xss W) (statD tss) [] W (t0 + t) a x) → ys.length = bs.length → ArgsOk (statG tss xss W) (statD tss) [] W t0 bs ys := by
    intro t0 bs
    induction bs generalizing t0 with
    | nil => intro ys _ hl; simpa [ArgsOk] using hl
    | cons a bs ih =>
      intro ys H hl
      cases ys with
      | nil => simp at hl
      | cons y ys =>
        obtain ⟨x, e1, e2⟩ := H 0 a rfl
        obtain rfl := Option.some.inj e1
        refine ⟨y, ys, rfl, e2, ih (t0 + 1) ys (fun t a ha => ?_) (by simpa using hl)⟩
        have := H (t + 1) a (by simpa using ha)
        rw [show t0 + (t + 1) = t0 + 1 + t by omega] at this
        simpa using this
  refine key 0 as vs (fun t a ha => ?_) h3
  obtain ⟨v, ts, xs, f1, f2, f3, f4, f5, f6⟩ := h4 t a ha
  rw [Nat.zero_add]
  refine ⟨v, f1, ?_⟩
  rcases f6 with ⟨rfl, rfl⟩ | ⟨rfl, rfl, f6⟩
  · refine ⟨xs, rfl, CsOk.mk f4.symm fun j t' x a b => ?_⟩
    rw [Nat.zero_add]
    exact hst.cell f2 a f3 b
  · obtain ⟨c1, c2⟩ := hst.cell (i := t) (j := 0) f2 rfl f3 rfl
    cases n with
    | zero => exact f6.elim
    | succ n =>
      refine AOk.cell c1 c2 ?_ ?_ ?_ <;> intros <;> rintro rfl <;> exact f6.elim

/-- A law that the machine finds true of all readable arguments. -/
theorem law_calls (hS : Sat P sig F) {n : Nat} {ts : List TypeId} {vs : List Value} {ds : List (DataW H)} {ps : List MemPlace} {r : Reach} {b0 f : Nat} (h : DataW.TrodAll enc P W 0 (fun _ => true) true ts vs ds ps) (hs : ts.all (shB P f) = true) (hv : ∀ (j : Nat) t v, ts[j]? = some t → vs[j]? = some v → Value.okWide P W r b0 t v)
    (hF : ∀ m as, ArgTy P m ts as → F n as = some ([.val (.bool true)], [])) : Calls P n vs.toArray W fun e W' => e = .returned (.bool true) ∧ Below W.heap.size W W' := by
  obtain ⟨m, as, tss, xss, h1, h2⟩ := args_of h hs hv
  obtain ⟨h3, h4⟩ := argRs_all h2
  refine (hS n as _ _ (hF m as h1) (statC W) (statD tss) [] (statG tss xss W) vs h3.inv h4).mono fun e W' hp => ?_
  obtain ⟨v, g', D', b', rfl, hf, _, hR, _⟩ := hp
  have hv : v = .bool true := hR.1.1
  subst hv
  exact ⟨rfl, hf.fr.os, hf.fr.tape, hf.fr.output, hf.fr.size, fun k hk => hf.fr.block k hk fun h => h⟩

end
end Go.Proofs.Ytekfjbejfondnaa.Tom
/-! The trees of a type, opened. -/
namespace Go.Proofs.Ytekfjbejfondnaa.Tom
open Go

section
variable {P : Program} {t : TypeId} {m : Nat} {ts : List T}

theorem TyT.int {k : IntKind} (hu : P.underlying t = some (.int k)) (h : TyT P m t ts) : ∃ n, ts = [.val (.int k n)] ∧ (Lit.int k n).wf = true := by
  cases m with
  | zero => exact h.elim
  | succ m => unfold TyT at h; simpa only [hu] using h

theorem TyT.bool (hu : P.underlying t = some .bool) (h : TyT P m t ts) : ∃ b, ts = [.val (.bool b)] := by
  cases m with
  | zero => exact h.elim
  | succ m => unfold TyT at h; simpa only [hu] using h

theorem TyT.str (hu : P.underlying t = some .string) (h : TyT P m t ts) : ∃ s, ts = [.val (.string s)] ∧ s.size ≤ maxLen := by
  cases m with
  | zero => exact h.elim
  | succ m => unfold TyT at h; simpa only [hu] using h

theorem TyT.slice {e : TypeId} (hu : P.underlying t = some (.slice e)) (h : TyT P m t ts) : ∃ m' el, ts = [.arr .stat (P.cellsOf e) el] ∧ el.length ≤ maxLen ∧ ∀ row ∈ el, TyT P m' e row := by
  cases m with
  | zero => exact h.elim
  | succ m => unfold TyT at h; simp only [hu] at h; exact ⟨m, h⟩

theorem TyT.struct {fs : Array Field} (hu : P.underlying t = some (.struct fs)) (h : TyT P m t ts) : ∃ m', TyF (TyT P m') fs.toList ts := by
  cases m with
  | zero => exact h.elim
  | succ m => unfold TyT at h; simp only [hu] at h; exact ⟨m, h⟩

theorem TyF.cons {r : TypeId → List T → Prop} {fd : Field} {fs : List Field} (h : TyF r (fd :: fs) ts) : ∃ a b, ts = a ++ b ∧ r fd.type a ∧ TyF r fs b := h
theorem TyF.nil {r : TypeId → List T → Prop} (h : TyF r [] ts) : ts = [] := h

theorem ArgTy.cons {l : List TypeId} {as : List T} (h : ArgTy P m (t :: l) as) : ∃ ts a as', as = a :: as' ∧ TyT P m t ts ∧ (if isStr P t then a = .agg ts else ts = [a]) ∧ ArgTy P m l as' := h
theorem ArgTy.nil {as : List T} (h : ArgTy P m [] as) : as = [] := h

/-- Rows of one form are a list of what they hold. -/
theorem rows_form {α : Type} {f : α → List T} : ∀ {el : List (List T)}, (∀ row ∈ el, ∃ x, row = f x) → ∃ l : List α, el = l.map f
  | [], _ => ⟨[], rfl⟩
  | row :: el, h => by
    obtain ⟨x, hx⟩ := h row List.mem_cons_self
    obtain ⟨l, hl⟩ := rows_form (el := el) fun r hr => h r (List.mem_cons_of_mem _ hr)
    exact ⟨x :: l, by rw [hx, hl]; rfl⟩

/-- Rows of one form, with what is known of each. -/
theorem rows_form' {α : Type} {f : α → List T} {p : α → Prop} : ∀ {el : List (List T)}, (∀ row ∈ el, ∃ x, row = f x ∧ p x) → ∃ l : List α, el = l.map f ∧ ∀ x ∈ l, p x
  | [], _ => ⟨[], rfl, by simp⟩
  | row :: el, h => by
    obtain ⟨x, hx, hp⟩ := h row List.mem_cons_self
    obtain ⟨l, hl, hq⟩ := rows_form' (el := el) fun r hr => h r (List.mem_cons_of_mem _ hr)
    exact ⟨x :: l, by rw [hx, hl]; rfl, fun y hy => (List.mem_cons.1 hy).elim (fun e => e ▸ hp) (hq y)⟩

end
end Go.Proofs.Ytekfjbejfondnaa.Tom
