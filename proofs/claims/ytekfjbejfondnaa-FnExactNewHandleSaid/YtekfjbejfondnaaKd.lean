/- Trees as arguments and as results: how they stand to values. A frame's beginning. Handing over: what the arguments' trees are of the caller's. A call's memory: what the called function may own; what both have afterwards. A call's beginning: the arguments as the called function's frame. A call's beginning: the called function's memory. A call's beginning: the called function's memory is a part of the caller's. A call's beginning, put together. A call's end: the caller's roots behind it, as lists. A call's end: what is given back, step by step. A call's end: no given tree is given twice. What a called function promises. A call's end: what the given trees are to the caller. A call's end: the caller's memory behind it. A call's end: lists of places; values of new trees. A call's end, put together. Calls, from their beginning to their end. -/
import Derived.Test.YtekfjbejfondnaaKc
import Derived.Orders
/-! Trees as arguments and as results: how they stand to values. A frame's beginning. -/
namespace Go.Proofs.Ytekfjbejfondnaa.Tom
open Go

/-- Cells' trees, detached under the names (a, k), (a, k + 1), .. -/
def CsOk (g : Gh) (D : Key → Option Node) (a : Nat) : Nat → List T → List Value → Prop
  | _, [], xs => xs = []
  | k, t :: ts, xs => ∃ x ys, xs = x :: ys ∧ CellOk g ⟨1, (a, k), []⟩ t x ∧ D (a, k) = t.node .own ∧ CsOk g D a (k + 1) ts ys

/-- Values side by side. -/
def AsOk (g : Gh) (D : Key → Option Node) (a : Nat) : Nat → List T → List Value → Prop
  | _, [], xs => xs = []
  | k, .agg cs :: l, xs => ∃ ys zs, xs = .agg ys.toArray :: zs ∧ CsOk g D a k cs ys ∧ AsOk g D a (k + cs.length) l zs
  | k, t :: l, xs => ∃ x zs, xs = x :: zs ∧ CellOk g ⟨1, (a, k), []⟩ t x ∧ D (a, k) = t.node .own ∧ AsOk g D a (k + 1) l zs

/-- One argument, or a single result. -/
def AOk (g : Gh) (D : Key → Option Node) (b : List (Nat × Nat)) (W : World) (a : Nat) : T → Value → Prop
  | .fn f caps, x => ∃ xs : List Value, x = .func (.func f) #[] xs.toArray ∧ AsOk g D a 0 caps xs
  | .agg cs, x => ∃ xs : List Value, x = .agg xs.toArray ∧ CsOk g D a 0 cs xs
  | .ptr cs, x => ∃ (xs : List Value) (q o : Nat), x = .pointer (some ⟨q, o, none⟩) ∧ g.bx a = (q, o) ∧ getB b a = some cs.length ∧ (∀ (j : Nat) (v : Value), xs[j]? = some v → W.cell? ⟨q, o + j, none⟩ = some v) ∧ CsOk g D a 0 cs xs
  | t, x => CellOk g ⟨1, (a, 0), []⟩ t x ∧ D (a, 0) = t.node .own

def ArgsOk (g : Gh) (D : Key → Option Node) (b : List (Nat × Nat)) (W : World) : Nat → List T → List Value → Prop
  | _, [], xs => xs = []
  | t, a :: l, xs => ∃ x ys, xs = x :: ys ∧ AOk g D b W t a x ∧ ArgsOk g D b W (t + 1) l ys

/-- A call's results. -/
def RetOk (g : Gh) (D : Key → Option Node) (b : List (Nat × Nat)) (W : World) (a : Nat) : List T → Value → Prop
  | [t], x => AOk g D b W a t x
  | l, x => ∃ xs : List Value, x = .tuple xs.toArray ∧ AsOk g D a 0 l xs

theorem CsOk.length {g : Gh} {D : Key → Option Node} {a : Nat} : ∀ {ts : List T} {k : Nat} {xs : List Value}, CsOk g D a k ts xs → xs.length = ts.length
  | [], k, xs, h => by simp only [CsOk] at h; simp [h]
  | t :: ts, k, xs, h => by obtain ⟨x, ys, rfl, _, _, h⟩ := h; simp [CsOk.length h]

theorem ArgsOk.length {g : Gh} {D : Key → Option Node} {b : List (Nat × Nat)} {W : World} : ∀ {as : List T} {t : Nat} {xs : List Value}, ArgsOk g D b W t as xs → xs.length = as.length
  | [], t, xs, h => by simp only [ArgsOk] at h; simp [h]
  | a :: l, t, xs, h => by obtain ⟨x, ys, rfl, _, h⟩ := h; simp [ArgsOk.length h]

theorem CsOk.get {g : Gh} {D : Key → Option Node} {a : Nat} : ∀ {ts : List T} {k : Nat} {xs : List Value}, CsOk g D a k ts xs → ∀ (j : Nat) (t : T), ts[j]? = some t → ∃ x, xs[j]? = some x ∧ CellOk g ⟨1, (a, k + j), []⟩ t x ∧ D (a, k + j) = t.node .own
  | t :: ts, k, xs, h, j, u, hj => by
    obtain ⟨x, ys, rfl, h1, h2, h3⟩ := h
    cases j with
    | zero => obtain rfl := Option.some.inj hj; exact ⟨x, rfl, h1, h2⟩
    | succ j =>
      obtain ⟨y, e1, e2, e3⟩ := CsOk.get h3 j u hj
      rw [show k + 1 + j = k + (j + 1) by omega] at e2 e3
      exact ⟨y, e1, e2, e3⟩

theorem CsOk.mk {g : Gh} {D : Key → Option Node} {a : Nat} : ∀ {ts : List T} {k : Nat} {xs : List Value}, xs.length = ts.length → (∀ (j : Nat) (t : T) (x : Value), ts[j]? = some t → xs[j]? = some x → CellOk g ⟨1, (a, k + j), []⟩ t x ∧ D (a, k + j) = t.node .own) → CsOk g D a k ts xs
  | [], k, xs, h, _ => by simpa [CsOk] using h
  | t :: ts, k, [], h, _ => by simp at h
  | t :: ts, k, x :: xs, h, H => by
    have h0 := H 0 t x rfl rfl
    exact ⟨x, xs, rfl, h0.1, h0.2, CsOk.mk (by simpa using h) fun j u y h1 h2 => by
      have := H (j + 1) u y (by simpa using h1) (by simpa using h2)
      rwa [show k + (j + 1) = k + 1 + j by omega] at this⟩

theorem AOk.cell {g : Gh} {D : Key → Option Node} {b : List (Nat × Nat)} {W : World} {a : Nat} {t : T} {x : Value} (h1 : CellOk g ⟨1, (a, 0), []⟩ t x) (h2 : D (a, 0) = t.node .own) (h3 : ∀ f l, t ≠ .fn f l) (h4 : ∀ l, t ≠ .agg l) (h5 : ∀ l, t ≠ .ptr l) : AOk g D b W a t x := by
  cases t <;> first | exact ⟨h1, h2⟩ | exact (h3 _ _ rfl).elim | exact (h4 _ rfl).elim | exact (h5 _ rfl).elim

theorem getR_mem {r : Roots} {k : Key} {n : Node} (h : getR r k = some n) : (k, n) ∈ r := by
  induction r with
  | nil => cases h
  | cons x r ih =>
    obtain ⟨a, m⟩ := x
    simp only [getR] at h
    split at h
    · rename_i e; subst e; obtain rfl := Option.some.inj h; exact List.mem_cons_self
    · exact List.mem_cons_of_mem _ (ih h)

theorem getB_mem {b : List (Nat × Nat)} {d m : Nat} (h : getB b d = some m) : (d, m) ∈ b := by
  induction b with
  | nil => cases h
  | cons x b ih =>
    obtain ⟨a, n⟩ := x
    simp only [getB] at h
    split at h
    · rename_i e; subst e; obtain rfl := Option.some.inj h; exact List.mem_cons_self
    · exact List.mem_cons_of_mem _ (ih h)

/-- In an environment without barriers: what holds of all entries and of nothing holds of what is looked up. -/
theorem lk_all {Q : Slot → V → Prop} (h0 : ∀ t, Q t .un) : ∀ {e : Env}, (∀ x ∈ e, ∃ u v, x = Ent.s u v ∧ Q u v) → ∀ t, Q t (lk e t)
  | [], _, t => h0 t
  | x :: e, h, t => by
    obtain ⟨u, v, rfl, hq⟩ := h x List.mem_cons_self
    simp only [lk]
    split
    · rename_i e; subst e; exact hq
    · exact lk_all h0 (fun y hy => h y (List.mem_cons_of_mem _ hy)) t

/-- The ghost of a frame whose roots were detached trees. -/
def down (g : Gh) : Gh := ⟨fun L => if L.z = 0 then g.hd ⟨1, L.k, L.p⟩ else g.hd L, g.bx⟩

theorem FInv.lessB {C : Ctx} {fo : NSet} {b b' : List (Nat × Nat)} {W : World} {g : Gh} (h : FInv C fo b W g) (hb : ∀ d m, getB b' d = some m → getB b d = some m) : FInv C fo b' W g :=
  ⟨h.node, fun d m c hd hc => h.box d m c (hb d m hd) hc, fun d m hd => h.boxlt d m (hb d m hd), h.x1, fun L n d m hn hd => h.x2 L n d m hn (hb d m hd), fun d d' m m' hd hd' => h.x3 d d' m m' (hb d m hd) (hb d' m' hd'),
    h.src, fun d m hd => h.srb d m (hb d m hd), h.lent, h.stat, h.fr, h.n0, h.own⟩

section
variable {C : Ctx} {D : Key → Option Node} {b b' : List (Nat × Nat)} {W : World} {g : Gh} {r : Roots}

theorem FInv.down (h : FInv C (atF (foD [] D)) b W g) (hr : ∀ k n, getR r k = some n → D k = some n) : FInv C (nR r) b W (down g) := by
  have key : ∀ L n', nR r L = some n' → L.z = 0 ∧ atF (foD [] D) ⟨1, L.k, L.p⟩ = some n' := by
    intro L n' hn
    obtain ⟨z, k, p⟩ := L
    unfold nR atF foR at hn
    simp only at hn
    by_cases hz : z = 0
    · subst hz
      rw [if_pos rfl] at hn
      obtain ⟨n, h1, h2⟩ := Option.bind_eq_some_iff.1 hn
      refine ⟨rfl, ?_⟩
      unfold atF foD
      simp only
      rw [if_neg (by decide), if_pos trivial, hr k n h1]
      exact h2
    · rw [if_neg hz] at hn; cases hn
  refine h.reindex (g' := Tom.down g) rfl (fun L => ⟨1, L.k, L.p⟩) (fun _ => 0) (fun L n' hn => ?_) (fun L L' n n' hn hn' _ he => ?_)
  · obtain ⟨h1, h2⟩ := key L n' hn
    exact ⟨n', h2, rfl, sim_self (h.node _ _ h2) (by simp [Tom.down, h1]) (fun i j => by simp [Tom.down, GLoc.ext, h1])⟩
  · obtain ⟨h1, _⟩ := key L n hn
    obtain ⟨h1', _⟩ := key L' n' hn'
    obtain ⟨z, k, p⟩ := L
    obtain ⟨z', k', p'⟩ := L'
    simp only [GLoc.mk.injEq, true_and] at he
    simp only at h1 h1'
    rw [h1, h1', he.1, he.2]

theorem impC_ok (h : FInv C (nR r) b' W (down g)) (hr : ∀ k n, getR r k = some n → D k = some n) {t k : Nat} {x : T} {v : Value} (hc : CellOk g ⟨1, (t, k), []⟩ x v) (hD : D (t, k) = x.node .own) : VOk (down g) (nR r) b' (impC t k x).1 v := by
  cases x with
  | val u => exact hc
  | nil => exact hc
  | arr ro es el =>
    refine ⟨_, _, hc, fun n hn => ?_⟩
    have hk := h.node _ n hn
    have hn' : getR r (t, k) = some n := by
      have : nodeAt r ⟨(t, k), []⟩ = some n := hn
      unfold nodeAt at this
      obtain ⟨m, h1, h2⟩ := Option.bind_eq_some_iff.1 this
      obtain rfl := Option.some.inj h2
      exact h1
    have e := hr _ _ hn'
    rw [hD] at e
    have e2 : n = ⟨ro, es, el⟩ := (Option.some.inj e).symm
    have hhd : (down g).hd (Loc.g ⟨(t, k), []⟩) = g.hd ⟨1, (t, k), []⟩ := by simp [down, Loc.g]
    rw [hhd]
    refine ⟨by have := hk.len; rw [hhd, e2] at this; exact this, Nat.zero_add _, fun hc0 => ?_⟩
    obtain ⟨q, o, _, _, ha, _⟩ := hk.mem (by rw [hhd]; exact hc0)
    rw [hhd] at ha
    exact ⟨q, o, ha, by rw [Nat.zero_mul, Nat.add_zero]; exact ha⟩
  | _ => trivial

theorem impCs_ok (h : FInv C (nR r) b' W (down g)) (hr : ∀ k n, getR r k = some n → D k = some n) {t : Nat} : ∀ {ts : List T} {k : Nat} {xs : List Value}, CsOk g D t k ts xs → VsOk (down g) (nR r) b' (impCs t k ts).1 xs
  | [], k, xs, hc => hc
  | x :: ts, k, xs, hc => by
    obtain ⟨y, ys, rfl, h1, h2, h3⟩ := hc
    exact ⟨y, ys, rfl, impC_ok h hr h1 h2, impCs_ok h hr h3⟩

theorem impAs_ok (h : FInv C (nR r) b' W (down g)) (hr : ∀ k n, getR r k = some n → D k = some n) {t : Nat} : ∀ {ts : List T} {k : Nat} {xs : List Value}, AsOk g D t k ts xs → VsOk (down g) (nR r) b' (impAs t k ts).1 xs
  | [], k, xs, hc => hc
  | x :: ts, k, xs, hc => by
    cases x <;> first
      | (obtain ⟨ys, zs, rfl, h1, h2⟩ := hc
         exact ⟨_, zs, rfl, ⟨ys, rfl, impCs_ok h hr h1⟩, impAs_ok h hr h2⟩)
      | (obtain ⟨y, zs, rfl, h1, h2, h3⟩ := hc
         exact ⟨y, zs, rfl, impC_ok h hr h1 h2, impAs_ok h hr h3⟩)

/-! The roots and the boxes of what is laid in. -/
theorem impC_roots {t k : Nat} {x : T} (hD : D (t, k) = x.node .own) : ∀ p ∈ (impC t k x).2, D p.1 = some p.2 := by
  intro p hp
  cases x <;> first
    | (simp only [impC, List.mem_singleton] at hp; subst hp; exact hD)
    | (simp [impC] at hp)

theorem impCs_roots {t : Nat} : ∀ {ts : List T} {k : Nat} {xs : List Value}, CsOk g D t k ts xs → ∀ p ∈ (impCs t k ts).2, D p.1 = some p.2
  | [], k, xs, _, p, hp => by simp [impCs] at hp
  | x :: ts, k, xs, hc, p, hp => by
    obtain ⟨y, ys, rfl, h1, h2, h3⟩ := hc
    simp only [impCs, List.mem_append] at hp
    exact hp.elim (impC_roots h2 p) (impCs_roots h3 p)

theorem impAs_roots {t : Nat} : ∀ {ts : List T} {k : Nat} {xs : List Value}, AsOk g D t k ts xs → ∀ p ∈ (impAs t k ts).2, D p.1 = some p.2
  | [], k, xs, _, p, hp => by simp [impAs] at hp
  | x :: ts, k, xs, hc, p, hp => by
    cases x <;> first
      | (obtain ⟨ys, zs, rfl, h1, h2⟩ := hc
         simp only [impAs, List.mem_append] at hp
         exact hp.elim (impCs_roots h1 p) (impAs_roots h2 p))
      | (obtain ⟨y, zs, rfl, h1, h2, h3⟩ := hc
         simp only [impAs, List.mem_append] at hp
         exact hp.elim (impC_roots h2 p) (impAs_roots h3 p))

theorem impA_roots {t : Nat} {x : T} {v : Value} (h : AOk g D b W t x v) : ∀ p ∈ (impA t 0 x).r, D p.1 = some p.2 := by
  cases x <;> first
    | (obtain ⟨xs, q, o, _, _, _, _, h1⟩ := h; exact impCs_roots h1)
    | (obtain ⟨xs, _, h1⟩ := h; first | exact impCs_roots h1 | exact impAs_roots h1)
    | exact impC_roots h.2

theorem impA_boxes {t : Nat} {x : T} {v : Value} (h : AOk g D b W t x v) : ∀ p ∈ (impA t 0 x).b, getB b p.1 = some p.2 := by
  cases x <;> first
    | (obtain ⟨xs, q, o, _, _, h1, _, _⟩ := h; intro p hp; simp only [impA, List.mem_singleton] at hp; subst hp; exact h1)
    | (intro p hp; simp [impA] at hp)

theorem impArgs_roots : ∀ {as : List T} {t : Nat} {xs : List Value}, ArgsOk g D b W t as xs → ∀ p ∈ (impArgs t as).r, D p.1 = some p.2
  | [], _, _, _, p, hp => by simp [impArgs] at hp
  | a :: l, t, xs, h, p, hp => by
    obtain ⟨x, ys, rfl, h1, h2⟩ := h
    simp only [impArgs, List.mem_append] at hp
    exact hp.elim (impA_roots h1 p) (impArgs_roots h2 p)

theorem impArgs_boxes : ∀ {as : List T} {t : Nat} {xs : List Value}, ArgsOk g D b W t as xs → ∀ p ∈ (impArgs t as).b, getB b p.1 = some p.2
  | [], _, _, _, p, hp => by simp [impArgs] at hp
  | a :: l, t, xs, h, p, hp => by
    obtain ⟨x, ys, rfl, h1, h2⟩ := h
    simp only [impArgs, List.mem_append] at hp
    exact hp.elim (impA_boxes h1 p) (impArgs_boxes h2 p)

theorem impA_val (h : FInv C (nR r) b' W (down g)) (hr : ∀ k n, getR r k = some n → D k = some n) {t : Nat} {x : T} {v : Value} (ha : AOk g D b W t x v) : VOk (down g) (nR r) b' (impA t 0 x).v v := by
  cases x with
  | fn f caps => obtain ⟨xs, rfl, h1⟩ := ha; exact ⟨xs, rfl, impAs_ok h hr h1⟩
  | agg cs => obtain ⟨xs, rfl, h1⟩ := ha; exact ⟨xs, rfl, impCs_ok h hr h1⟩
  | ptr cs =>
    obtain ⟨xs, q, o, rfl, h1, _⟩ := ha
    exact ⟨_, rfl, fun m _ => by simp only [down, h1, Nat.add_zero]⟩
  | _ => exact impC_ok h hr ha.1 ha.2

/-- What holds of a slot of a frame. -/
def SlotOk (g : Gh) (fo : NSet) (b : List (Nat × Nat)) (W : World) (tm : Nat → Value) (u : Slot) (v : V) : Prop :=
  (u.2 = 0 → VOk g fo b v (tm u.1)) ∧ ∀ c m x, u.2 = c + 1 → getB b u.1 = some m → c < m → W.cell? ⟨(g.bx u.1).1, (g.bx u.1).2 + c, none⟩ = some x → VOk g fo b v x

theorem slots_mem {d : Nat} : ∀ {l : List V} {c : Nat} {x : Ent}, x ∈ slots d c l → ∃ j v, l[j]? = some v ∧ x = .s (d, c + j + 1) v
  | [], _, _, h => by simp [slots] at h
  | v :: l, c, x, h => by
    simp only [slots, List.mem_cons] at h
    rcases h with rfl | h
    · exact ⟨0, v, rfl, rfl⟩
    · obtain ⟨j, u, h1, rfl⟩ := slots_mem h
      exact ⟨j + 1, u, h1, by congr 2; omega⟩

theorem impArgs_slots (h : FInv C (nR r) b' W (down g)) (hr : ∀ k n, getR r k = some n → D k = some n) {tm : Nat → Value} : ∀ {as : List T} {t : Nat} {xs : List Value}, ArgsOk g D b W t as xs → (∀ (j : Nat) (x : Value), xs[j]? = some x → tm (t + j) = x) →
    ∀ x ∈ (impArgs t as).e, ∃ u v, x = Ent.s u v ∧ SlotOk (down g) (nR r) b' W tm u v
  | [], _, _, _, _, x, hx => by simp [impArgs] at hx
  | a :: l, t, xs, ha, ht, x, hx => by
    obtain ⟨y, ys, rfl, h1, h2⟩ := ha
    simp only [impArgs, List.mem_cons, List.mem_append] at hx
    rcases hx with rfl | hx | hx
    · refine ⟨_, _, rfl, fun _ => ?_, fun c m x e => by simp at e⟩
      have := ht 0 y rfl
      rw [Nat.add_zero] at this
      rw [this]
      exact impA_val h hr h1
    · cases a <;> first
        | (simp only [impA] at hx; simp at hx; done)
        | (obtain ⟨zs, q, o, rfl, e1, e2, e3, e4⟩ := h1
           simp only [impA] at hx
           obtain ⟨j, v, f1, rfl⟩ := slots_mem hx
           refine ⟨_, _, rfl, fun e => by simp at e, fun c m w e hm hc hw => ?_⟩
           simp only [Nat.zero_add, Nat.add_right_cancel_iff] at e
           subst e
           obtain ⟨z, f2, f3⟩ := (impCs_ok h hr e4).get j v f1
           have := e3 j z f2
           simp only [down, e1] at hw
           rw [this] at hw
           obtain rfl := Option.some.inj hw
           exact f3)
    · exact impArgs_slots h hr h2 (fun j x hj => by
        have := ht (j + 1) x (by simpa using hj)
        rwa [show t + (j + 1) = t + 1 + j by omega] at this) x hx

/-- A frame's beginning. -/
theorem impArgs_inv (h : FInv C (atF (foD [] D)) b W g) {as : List T} {xs : List Value} (ha : ArgsOk g D b W 0 as xs) {tm : Nat → Value} (ht : ∀ (j : Nat) (x : Value), xs[j]? = some x → tm j = x) : Inv C (impArgs 0 as) W (down g) tm := by
  have hr : ∀ k n, getR (impArgs 0 as).r k = some n → D k = some n := fun k n hk => impArgs_roots ha _ (getR_mem hk)
  have hb : ∀ d m, getB (impArgs 0 as).b d = some m → getB b d = some m := fun d m hd => impArgs_boxes ha _ (getB_mem hd)
  have hf : FInv C (nR (impArgs 0 as).r) (impArgs 0 as).b W (down g) := (h.lessB hb).down hr
  have hs := lk_all (Q := SlotOk (down g) (nR (impArgs 0 as).r) (impArgs 0 as).b W tm) (fun t => ⟨fun _ => trivial, fun _ _ _ _ _ _ _ => trivial⟩)
    (impArgs_slots (b := b) hf hr (tm := tm) ha (fun j x hj => by rw [Nat.zero_add]; exact ht j x hj))
  exact ⟨hf, fun t => (hs (t, 0)).1 rfl, fun d m c x hm hc hx => (hs (d, c + 1)).2 c m x rfl hm hc hx⟩

end
end Go.Proofs.Ytekfjbejfondnaa.Tom
/-! Handing over: what the arguments' trees are of the caller's. -/
namespace Go.Proofs.Ytekfjbejfondnaa.Tom
open Go

def flatTs : List T → List T
  | [] => []
  | .agg cs :: l => cs ++ flatTs l
  | t :: l => t :: flatTs l
def flatT : T → List T
  | .agg cs => cs
  | .ptr cs => cs
  | .fn _ l => flatTs l
  | t => [t]
def flatVs : List V → List V
  | [] => []
  | .agg cs :: l => cs ++ flatVs l
  | v :: l => v :: flatVs l
def flatV : V → List V
  | .agg cs => cs
  | .fn _ l => flatVs l
  | v => [v]
def flatXs : List V → List Value → List Value
  | .agg _ :: l, x :: xs => x.cells.toList ++ flatXs l xs
  | _ :: l, x :: xs => x :: flatXs l xs
  | _, _ => []
def flatX : V → Value → List Value
  | .agg _, x => x.cells.toList
  | .fn _ l, .func _ _ xs => flatXs l xs.toList
  | _, x => [x]

/-- A cell that is lent or handed. -/
def CellArg (r : Roots) (hd : Bool) : V → T → Prop
  | .val u, t => t = .val u
  | .nil, t => t = .nil ∨ ∃ ro es, t = .arr ro es [] ∧ ro ≠ .lent
  | .un, t => t = .dead
  | .sl L off len, t => ∃ m, nodeAt r L = some m ∧ if hd = true then m.ro = .own ∧ off = 0 ∧ len = m.el.length ∧ t = .arr .own m.es m.el else off + len ≤ m.el.length ∧ t = .arr m.ro.lend m.es (cut m.el off len)
  | _, _ => False

/-- Cells side by side: one by one. -/
structure Cells3 (g : Gh) (fo : NSet) (b : List (Nat × Nat)) (R : V → T → Prop) (vs : List V) (ts : List T) (xs : List Value) : Prop where
  lt : ts.length = vs.length
  lx : xs.length = vs.length
  ok : ∀ (k : Nat) (v : V) (t : T) (x : Value), vs[k]? = some v → ts[k]? = some t → xs[k]? = some x → VOk g fo b v x ∧ R v t

section
variable {g : Gh} {fo : NSet} {b : List (Nat × Nat)} {R : V → T → Prop} {r : Roots}

theorem Cells3.nil : Cells3 g fo b R [] [] [] := ⟨rfl, rfl, by simp⟩

theorem Cells3.cons {v : V} {vs : List V} {t : T} {ts : List T} {x : Value} {xs : List Value} (hv : VOk g fo b v x) (hr : R v t) (h : Cells3 g fo b R vs ts xs) : Cells3 g fo b R (v :: vs) (t :: ts) (x :: xs) :=
  ⟨by simp [h.lt], by simp [h.lx], fun k v' t' x' h1 h2 h3 => by
    cases k with
    | zero =>
      obtain rfl := Option.some.inj h1
      obtain rfl := Option.some.inj h2
      obtain rfl := Option.some.inj h3
      exact ⟨hv, hr⟩
    | succ k => exact h.ok k v' t' x' (by simpa using h1) (by simpa using h2) (by simpa using h3)⟩

theorem Cells3.append {vs vs' : List V} {ts ts' : List T} {xs xs' : List Value} (h : Cells3 g fo b R vs ts xs) (h' : Cells3 g fo b R vs' ts' xs') : Cells3 g fo b R (vs ++ vs') (ts ++ ts') (xs ++ xs') :=
  ⟨by simp [h.lt, h'.lt], by simp [h.lx, h'.lx], fun k v t x h1 h2 h3 => by
    by_cases hk : k < vs.length
    · rw [List.getElem?_append_left hk] at h1
      rw [List.getElem?_append_left (by rw [h.lt]; exact hk)] at h2
      rw [List.getElem?_append_left (by rw [h.lx]; exact hk)] at h3
      exact h.ok k v t x h1 h2 h3
    · rw [List.getElem?_append_right (by omega)] at h1
      rw [List.getElem?_append_right (by rw [h.lt]; omega), h.lt] at h2
      rw [List.getElem?_append_right (by rw [h.lx]; omega), h.lx] at h3
      exact h'.ok _ v t x h1 h2 h3⟩

theorem lend_ok {v : V} {t : T} (h : lend r v = some t) : CellArg r false v t := by
  cases v with
  | val u => exact (Option.some.inj h).symm
  | nil => exact .inl (Option.some.inj h).symm
  | un => exact (Option.some.inj h).symm
  | sl L off len =>
    simp only [lend] at h
    obtain ⟨m, h1, h2⟩ := Option.bind_eq_some_iff.1 h
    split at h2
    · rename_i hl
      exact ⟨m, h1, by rw [if_neg (by decide)]; exact ⟨hl, (Option.some.inj h2).symm⟩⟩
    · cases h2
  | _ => cases h

theorem fat_ok {v : V} {t : T} {hd : Bool} {ro : Ro} (hro : ro ≠ .lent) (f : Option Nat) (hv : CellArg r hd v t) (hn : t = .nil → v = .nil) : CellArg r hd v (t.fat ro f) := by
  unfold T.fat
  split
  · obtain rfl := hn rfl
    exact .inr ⟨_, _, rfl, hro⟩
  · exact hv

theorem lend_nil {v : V} (h : lend r v = some .nil) : v = .nil ∨ ∃ u, v = .val u ∧ False := by
  cases v with
  | val u => cases h
  | nil => exact .inl rfl
  | un => cases h
  | sl L off len =>
    simp only [lend] at h
    obtain ⟨m, h1, h2⟩ := Option.bind_eq_some_iff.1 h
    split at h2
    · cases h2
    · cases h2
  | _ => cases h

theorem lends_ok : ∀ {l : List V} {fs : Fat} {ts : List T} {xs : List Value}, lends r fs l = some ts → VsOk g fo b l xs → Cells3 g fo b (CellArg r false) l ts xs
  | [], fs, ts, xs, h, hv => by
    obtain rfl := Option.some.inj h
    simp only [VsOk] at hv
    subst hv
    exact .nil
  | v :: l, fs, ts, xs, h, hv => by
    obtain ⟨x, ys, rfl, h1, h2⟩ := hv
    simp only [lends] at h
    obtain ⟨t, h3, h⟩ := Option.bind_eq_some_iff.1 h
    obtain ⟨us, h4, rfl⟩ := Option.map_eq_some_iff.1 h
    exact .cons h1 (fat_ok (by decide) _ (lend_ok h3) (fun e => by subst e; exact (lend_nil h3).elim id (fun ⟨_, _, e⟩ => e.elim))) (lends_ok h4 h2)

theorem agg_cells {l : List V} {x : Value} (h : VOk g fo b (.agg l) x) : VsOk g fo b l x.cells.toList := by
  obtain ⟨xs, rfl, h⟩ := h
  simpa [Value.cells] using h

theorem lendAs_ok : ∀ {l : List V} {ts : List T} {xs : List Value}, lendAs r l = some ts → VsOk g fo b l xs → Cells3 g fo b (CellArg r false) (flatVs l) (flatTs ts) (flatXs l xs) ∧
      ∀ (g' : Gh) (D' : Key → Option Node) (a k0 : Nat), (∀ (k : Nat) (w : T) (y : Value), (flatTs ts)[k]? = some w → (flatXs l xs)[k]? = some y → CellOk g' ⟨1, (a, k0 + k), []⟩ w y ∧ D' (a, k0 + k) = w.node .own) → AsOk g' D' a k0 ts xs
  | [], ts, xs, h, hv => by
    obtain rfl := Option.some.inj h
    simp only [VsOk] at hv
    subst hv
    exact ⟨.nil, fun _ _ _ _ _ => rfl⟩
  | v :: l, ts, xs, h, hv => by
    obtain ⟨x, ys, rfl, h1, h2⟩ := hv
    by_cases ha : ∃ vs, v = .agg vs
    · obtain ⟨vs, rfl⟩ := ha
      simp only [lendAs] at h
      obtain ⟨t, h3, h⟩ := Option.bind_eq_some_iff.1 h
      obtain ⟨us, h4, rfl⟩ := Option.map_eq_some_iff.1 h
      have hc := lends_ok h3 (agg_cells h1)
      obtain ⟨i1, i2⟩ := lendAs_ok h4 h2
      simp only [flatVs, flatTs, flatXs]
      refine ⟨hc.append i1, fun g' D' a k0 H => ?_⟩
      obtain ⟨zs, rfl, _⟩ := h1
      simp only [Value.cells] at H hc
      have hlx : zs.length = t.length := by
        have e1 : zs.length = vs.length := by simpa using hc.lx
        rw [e1, hc.lt]
      refine ⟨zs, ys, rfl, CsOk.mk hlx fun j w y e1 e2 => ?_, i2 g' D' a _ fun k w y e1 e2 => ?_⟩
      · have hj := (List.getElem?_eq_some_iff.1 e1).1
        have hj2 := (List.getElem?_eq_some_iff.1 e2).1
        exact H j w y (by rw [List.getElem?_append_left hj]; exact e1) (by rw [List.getElem?_append_left (by simpa using hj2)]; simpa using e2)
      · have := H (t.length + k) w y (by rw [List.getElem?_append_right (by omega), Nat.add_sub_cancel_left]; exact e1)
          (by rw [List.getElem?_append_right (show zs.length ≤ t.length + k by omega), hlx, Nat.add_sub_cancel_left]; exact e2)
        rwa [← Nat.add_assoc] at this
    · have hl : lendAs r (v :: l) = (lend r v).bind fun t => (lendAs r l).map fun ts => t :: ts := by
        cases v <;> first | rfl | exact (ha ⟨_, rfl⟩).elim
      rw [hl] at h
      obtain ⟨t, h3, h⟩ := Option.bind_eq_some_iff.1 h
      obtain ⟨us, h4, rfl⟩ := Option.map_eq_some_iff.1 h
      obtain ⟨i1, i2⟩ := lendAs_ok h4 h2
      have hc := lend_ok h3
      have hta : ∀ cs, t ≠ .agg cs := fun cs e => by
        subst e
        cases v <;> first
          | (cases hc; done)
          | (exact hc.elim)
          | (obtain ⟨m, _, hc⟩ := hc; rw [if_neg (by decide)] at hc; cases hc.2)
          | (rcases hc with hc | ⟨_, _, hc, _⟩ <;> cases hc)
      have e1 : flatVs (v :: l) = v :: flatVs l := by cases v <;> first | rfl | exact (ha ⟨_, rfl⟩).elim
      have e2 : flatTs (t :: us) = t :: flatTs us := by cases t <;> first | rfl | exact (hta _ rfl).elim
      have e3 : flatXs (v :: l) (x :: ys) = x :: flatXs l ys := by cases v <;> first | rfl | exact (ha ⟨_, rfl⟩).elim
      rw [e1, e2, e3]
      refine ⟨.cons h1 hc i1, fun g' D' a k0 H => ?_⟩
      have h0 := H 0 t x rfl rfl
      have hrest := i2 g' D' a (k0 + 1) fun k w y f1 f2 => by
        have := H (k + 1) w y (by simpa using f1) (by simpa using f2)
        rwa [show k0 + (k + 1) = k0 + 1 + k by omega] at this
      cases t <;> first
        | exact ⟨x, ys, rfl, h0.1, h0.2, hrest⟩
        | exact (hta _ rfl).elim

/-- What an argument is: its cells, one by one, and how they make it up. -/
structure ArgOk (g : Gh) (fo : NSet) (b : List (Nat × Nat)) (R : V → T → Prop) (v : V) (t : T) (x : Value) : Prop where
  cells : Cells3 g fo b R (flatV v) (flatT t) (flatX v x)
  make : ∀ (g' : Gh) (D' : Key → Option Node) (b' : List (Nat × Nat)) (W' : World) (a : Nat), (∀ (k : Nat) (w : T) (y : Value), (flatT t)[k]? = some w → (flatX v x)[k]? = some y → CellOk g' ⟨1, (a, k), []⟩ w y ∧ D' (a, k) = w.node .own) → AOk g' D' b' W' a t x

theorem ArgOk.one {v : V} {t : T} {x : Value} (hv : VOk g fo b v x) (hr : R v t) (h1 : flatV v = [v]) (h2 : flatX v x = [x]) (h3 : ∀ f l, t ≠ .fn f l) (h4 : ∀ l, t ≠ .agg l) (h5 : ∀ l, t ≠ .ptr l) : ArgOk g fo b R v t x := by
  have e : flatT t = [t] := by cases t <;> first | rfl | exact (h3 _ _ rfl).elim | exact (h4 _ rfl).elim | exact (h5 _ rfl).elim
  refine ⟨by rw [h1, h2, e]; exact .cons hv hr .nil, fun g' D' b' W' a H => ?_⟩
  rw [h2, e] at H
  have := H 0 t x rfl rfl
  exact AOk.cell this.1 this.2 h3 h4 h5

theorem ArgOk.agg {l : List V} {ts : List T} {x : Value} (hv : VOk g fo b (.agg l) x) (h : Cells3 g fo b R l ts x.cells.toList) : ArgOk g fo b R (.agg l) (.agg ts) x := by
  refine ⟨h, fun g' D' b' W' a H => ?_⟩
  obtain ⟨zs, rfl, _⟩ := hv
  simp only [flatX, flatT, Value.cells] at H h
  have hlx : zs.length = ts.length := by
    have e1 : zs.length = l.length := by simpa using h.lx
    rw [e1, h.lt]
  exact ⟨zs, rfl, CsOk.mk hlx fun j w y e1 e2 => by
    rw [Nat.zero_add]
    exact H j w y e1 (by simpa using e2)⟩

theorem cellArg_top {hd : Bool} {v : V} {t : T} (h : CellArg r hd v t) : (∀ f l, t ≠ .fn f l) ∧ (∀ l, t ≠ .agg l) ∧ ∀ l, t ≠ .ptr l := by
  cases v with
  | val u => simp only [CellArg] at h; subst h; exact ⟨by simp, by simp, by simp⟩
  | nil =>
    rcases h with h | ⟨_, _, h, _⟩ <;> subst h <;> exact ⟨by simp, by simp, by simp⟩
  | un => simp only [CellArg] at h; subst h; exact ⟨by simp, by simp, by simp⟩
  | sl L off len =>
    obtain ⟨m, _, h⟩ := h
    split at h
    · obtain ⟨_, _, _, h⟩ := h; subst h; exact ⟨by simp, by simp, by simp⟩
    · obtain ⟨_, h⟩ := h; subst h; exact ⟨by simp, by simp, by simp⟩
  | _ => exact h.elim

theorem lendA_ok {fs : Fat} {v : V} {t : T} {x : Value} (h : lendA r fs v = some t) (hv : VOk g fo b v x) : ArgOk g fo b (CellArg r false) v t x := by
  by_cases ha : ∃ l, v = .agg l
  · obtain ⟨l, rfl⟩ := ha
    obtain ⟨ts, h1, rfl⟩ := Option.map_eq_some_iff.1 h
    exact .agg hv (lends_ok h1 (agg_cells hv))
  by_cases hfn : ∃ f caps, v = .fn f caps
  · obtain ⟨f, caps, rfl⟩ := hfn
    obtain ⟨ts, h1, rfl⟩ := Option.map_eq_some_iff.1 h
    obtain ⟨xs, rfl, h2⟩ := hv
    obtain ⟨i1, i2⟩ := lendAs_ok h1 h2
    exact ⟨i1, fun g' D' b' W' a H => ⟨xs, rfl, i2 g' D' a 0 fun k w y e1 e2 => by rw [Nat.zero_add]; exact H k w y e1 e2⟩⟩
  · have e : lendA r fs v = (lend r v).map fun t => t.fat .stat fs.hd := by cases v <;> first | rfl | exact (ha ⟨_, rfl⟩).elim | exact (hfn ⟨_, _, rfl⟩).elim
    rw [e] at h
    obtain ⟨t0, h1, rfl⟩ := Option.map_eq_some_iff.1 h
    have hc := fat_ok (ro := .stat) (by decide) fs.hd (lend_ok h1) (fun e => by subst e; exact (lend_nil h1).elim id (fun ⟨_, _, e⟩ => e.elim))
    have ht := cellArg_top hc
    refine .one hv hc ?_ ?_ ht.1 ht.2.1 ht.2.2 <;> cases v <;> first | rfl | exact (ha ⟨_, rfl⟩).elim | exact (hfn ⟨_, _, rfl⟩).elim

theorem handRow_ok {f : Option Nat} {v : V} {t : T} (h : handRow r f v = some t) : CellArg r true v t := by
  cases v with
  | val u => exact (Option.some.inj h).symm
  | nil =>
    obtain rfl := Option.some.inj h
    unfold T.fat
    split
    · exact .inr ⟨_, _, rfl, by decide⟩
    · exact .inl rfl
  | sl L off len =>
    simp only [handRow] at h
    obtain ⟨m, h1, h2⟩ := Option.bind_eq_some_iff.1 h
    split at h2
    · rename_i hl
      exact ⟨m, h1, by rw [if_pos rfl]; exact ⟨hl.1, hl.2.1, hl.2.2, (Option.some.inj h2).symm⟩⟩
    · cases h2
  | _ => cases h

theorem handRows_ok : ∀ {l : List V} {fs : Fat} {ts : List T} {xs : List Value}, handRows r fs l = some ts → VsOk g fo b l xs → Cells3 g fo b (CellArg r true) l ts xs
  | [], fs, ts, xs, h, hv => by
    obtain rfl := Option.some.inj h
    simp only [VsOk] at hv
    subst hv
    exact .nil
  | v :: l, fs, ts, xs, h, hv => by
    obtain ⟨x, ys, rfl, h1, h2⟩ := hv
    simp only [handRows] at h
    obtain ⟨t, h3, h⟩ := Option.bind_eq_some_iff.1 h
    obtain ⟨us, h4, rfl⟩ := Option.map_eq_some_iff.1 h
    exact .cons h1 (handRow_ok h3) (handRows_ok h4 h2)

end

/-- Is the argument handed (with the right to write)? -/
def Hand.own : Hand → Bool
  | .row _ | .rows _ => true
  | _ => false

theorem handA_ok {g : Gh} {fo : NSet} {b : List (Nat × Nat)} {e : Env} {r r' : Roots} {bb : List (Nat × Nat)} {h : Hand} {v : V} {t : T} {x : Value} (hh : handA e r bb h v = some (t, r')) (hc : ∀ fs, h ≠ .cells fs) (hv : VOk g fo b v x) :
    r' = r ∧ ArgOk g fo b (CellArg r h.own) v t x := by
  cases h with
  | cells fs => exact (hc fs rfl).elim
  | lent fs =>
    obtain ⟨t', h1, h2⟩ := Option.map_eq_some_iff.1 hh
    obtain ⟨rfl, rfl⟩ := Prod.mk.inj h2
    exact ⟨rfl, lendA_ok h1 hv⟩
  | row fs =>
    obtain ⟨t', h1, h2⟩ := Option.map_eq_some_iff.1 hh
    obtain ⟨rfl, rfl⟩ := Prod.mk.inj h2
    have hca := handRow_ok h1
    have ht := cellArg_top hca
    refine ⟨rfl, .one hv hca ?_ ?_ ht.1 ht.2.1 ht.2.2⟩ <;> cases v <;> first | rfl | cases h1
  | rows fs =>
    cases v <;> try (cases hh; done)
    case agg l =>
      obtain ⟨t', h1, h2⟩ := Option.map_eq_some_iff.1 hh
      obtain ⟨rfl, rfl⟩ := Prod.mk.inj h2
      exact ⟨rfl, .agg hv (handRows_ok h1 (agg_cells hv))⟩

end Go.Proofs.Ytekfjbejfondnaa.Tom
/-! A call's memory: what the called function may own; what both have afterwards. -/
namespace Go.Proofs.Ytekfjbejfondnaa.Tom
open Go

/-- What a call is handed: the blocks and cells of the nodes and variables that it owns. -/
def enterC (N0 : Nat) (W : World) (fo' : NSet) (b' : List (Nat × Nat)) (g' : Gh) : Ctx where
  W0 := W
  N0 := N0
  ob q := (∃ L n, fo' L = some n ∧ n.ro = .own ∧ (g'.hd L).blk = some q) ∨ ∃ t m, getB b' t = some m ∧ (g'.bx t).1 = q
  own q i := (∃ L n o k, fo' L = some n ∧ n.ro = .own ∧ (g'.hd L).cap ≠ 0 ∧ (g'.hd L).a = some ⟨q, o, none⟩ ∧ k < (g'.hd L).cap * n.es ∧ i = o + k) ∨ ∃ t m k, getB b' t = some m ∧ (g'.bx t).1 = q ∧ k < m ∧ i = (g'.bx t).2 + k

theorem blk_cap {h : Hd} {q : Nat} (hq : h.blk = some q) : h.cap ≠ 0 := by
  unfold Hd.blk at hq
  split at hq
  · cases hq
  · assumption

theorem blk_addr {h : Hd} {q : Nat} (hq : h.blk = some q) : ∃ a, h.a = some a ∧ a.block = q := by
  unfold Hd.blk at hq
  split at hq
  · cases hq
  · obtain ⟨a, h1, h2⟩ := Option.map_eq_some_iff.1 hq
    exact ⟨a, h1, h2⟩

section
variable {C : Ctx} {fo fo' : NSet} {b b' : List (Nat × Nat)} {W W' : World} {g g' : Gh}

/-- A node's own block lies above what nobody writes. -/
theorem FInv.ownN0 (h : FInv C fo b W g) {L : GLoc} {n : Node} (hn : fo L = some n) (ho : n.ro = .own) {q : Nat} (hq : (g.hd L).blk = some q) : C.N0 ≤ q := by
  obtain ⟨q', o, _, _, ha, _⟩ := (h.node L n hn).mem (blk_cap hq)
  obtain ⟨a, ha', rfl⟩ := blk_addr hq
  rw [ha] at ha'
  obtain rfl := Option.some.inj ha'
  rcases h.src L n q' o hn ho (blk_cap hq) ha with h1 | h1
  · exact Nat.le_trans h.n0 h1
  · exact h.own _ h1.1

theorem FInv.boxN0 (h : FInv C fo b W g) {d m : Nat} (hd : getB b d = some m) : C.N0 ≤ (g.bx d).1 := by
  rcases h.srb d m hd with h1 | h1
  · exact Nat.le_trans h.n0 h1
  · exact h.own _ h1.1

theorem FInv.enter (h : FInv C fo b W g) (φ : GLoc → GLoc) (σ : GLoc → Nat)
    (H : ∀ L n', fo' L = some n' → (n'.el = [] ∧ (g'.hd L).cap = 0 ∧ n'.ro ≠ .lent) ∨ ∃ n, fo (φ L) = some n ∧ Sim g g' L (φ L) (σ L) n' n ∧ (n'.ro = .own → n.ro = .own) ∧ (n'.ro = .stat → n.ro = .stat))
    (inj : ∀ L L' n n', fo' L = some n → fo' L' = some n' → (g'.hd L).cap ≠ 0 → (g'.hd L').cap ≠ 0 → n.ro = .own → φ L = φ L' → L = L')
    (B : ∀ t m, getB b' t = some m → ∃ d c md, getB b d = some md ∧ c + m ≤ md ∧ g'.bx t = ((g.bx d).1, (g.bx d).2 + c))
    (Bd : ∀ t t' m m', getB b' t = some m → getB b' t' = some m' → t ≠ t' → (g'.bx t).1 ≠ (g'.bx t').1) : FInv (enterC C.N0 W fo' b' g') fo' b' W g' := by
  have hne : ∀ L n', fo' L = some n' → (g'.hd L).cap ≠ 0 → ∃ n, fo (φ L) = some n ∧ Sim g g' L (φ L) (σ L) n' n ∧ (n'.ro = .own → n.ro = .own) ∧ (n'.ro = .stat → n.ro = .stat) := by
    intro L n' hn hc
    rcases H L n' hn with ⟨_, h2, _⟩ | h1
    · exact (hc h2).elim
    · exact h1
  have hx1 : ∀ L L' n n', fo' L = some n → fo' L' = some n' → n.ro = .own → L ≠ L' → ∀ q, (g'.hd L).blk = some q → (g'.hd L').blk ≠ some q := by
    intro L L' n n' hn hn' ho hl q hq hq'
    obtain ⟨m, h1, h2, h3, _⟩ := hne L n hn (blk_cap hq)
    obtain ⟨m', h1', h2', _, _⟩ := hne L' n' hn' (blk_cap hq')
    exact h.x1 _ _ m m' h1 h1' (h3 ho) (fun e => hl (inj L L' n n' hn hn' (blk_cap hq) (blk_cap hq') ho e)) q (h2.blk hq) (h2'.blk hq')
  have hx2 : ∀ L n t m, fo' L = some n → getB b' t = some m → (g'.hd L).blk ≠ some (g'.bx t).1 := by
    intro L n t m hn ht hq
    obtain ⟨n1, h1, h2, _⟩ := hne L n hn (blk_cap hq)
    obtain ⟨d, c, md, hd, _, hb⟩ := B t m ht
    rw [hb] at hq
    exact h.x2 _ n1 d md h1 hd (h2.blk hq)
  refine ⟨fun L n' hn => ?_, fun t m c ht hc => ?_, fun t m ht => ?_, hx1, hx2, fun t t' m m' ht ht' hn => Bd t t' m m' ht ht' hn, fun L n q o hn ho hc ha => ?_, fun t m ht => ?_, fun L n q hn ho hq => ?_, fun L n q hn ho hq => ?_, ?_, ?_, ?_⟩
  · rcases H L n' hn with ⟨h1, h2, _⟩ | ⟨n, h1, h2, h3, _⟩
    · exact ⟨by rw [h1, h2]; exact Nat.le_refl _, fun hc => (hc h2).elim, by rw [h1]; simp, fun i j t ht => by rw [h1] at ht; simp [cellAt] at ht⟩
    · exact h2.nodeOk h3 (h.node _ _ h1)
  · obtain ⟨d, c', md, hd, hle, hb⟩ := B t m ht
    rw [hb]
    have := h.box d md (c' + c) hd (by omega)
    rwa [← Nat.add_assoc] at this
  · obtain ⟨d, c', md, hd, hle, hb⟩ := B t m ht
    rw [hb]
    exact h.boxlt d md hd
  · exact .inr ⟨.inl ⟨L, n, hn, ho, blk_of ha hc⟩, fun k hk => .inl ⟨L, n, o, k, hn, ho, hc, ha, hk, rfl⟩⟩
  · exact .inr ⟨.inr ⟨t, m, ht, rfl⟩, fun k hk => .inr ⟨t, m, k, ht, rfl, hk, rfl⟩⟩
  · obtain ⟨n1, h1, h2, _, _⟩ := hne L n hn (blk_cap hq)
    refine ⟨(h.node _ _ h1).lt (h2.blk hq), ?_⟩
    rintro (⟨L', n', hn', ho', hq'⟩ | ⟨t, m, ht, hq'⟩)
    · exact hx1 L' L n' n hn' hn ho' (fun e => by subst e; rw [hn] at hn'; obtain rfl := Option.some.inj hn'; rw [ho] at ho'; cases ho') q hq' hq
    · exact hx2 L n t m hn ht (by rw [hq']; exact hq)
  · obtain ⟨n1, h1, h2, _, h4⟩ := hne L n hn (blk_cap hq)
    exact h.stat _ n1 q h1 (h4 ho) (h2.blk hq)
  · exact ⟨rfl, rfl, rfl, Nat.le_refl _, fun _ _ _ => rfl, fun _ _ _ _ => rfl, fun _ _ => rfl, fun _ _ _ => rfl⟩
  · exact Nat.le_trans h.n0 h.fr.size
  · rintro q (⟨L, n, hn, ho, hq⟩ | ⟨t, m, ht, rfl⟩)
    · obtain ⟨n1, h1, h2, h3, _⟩ := hne L n hn (blk_cap hq)
      exact h.ownN0 h1 (h3 ho) (h2.blk hq)
    · obtain ⟨d, c', md, hd, hle, hb⟩ := B t m ht
      rw [hb]
      exact h.boxN0 hd

/-- Who is handed: the caller's own. -/
theorem enter_own (h : FInv C fo b W g) (φ : GLoc → GLoc) (σ : GLoc → Nat)
    (H : ∀ L n', fo' L = some n' → (n'.el = [] ∧ (g'.hd L).cap = 0 ∧ n'.ro ≠ .lent) ∨ ∃ n, fo (φ L) = some n ∧ Sim g g' L (φ L) (σ L) n' n ∧ (n'.ro = .own → n.ro = .own) ∧ (n'.ro = .stat → n.ro = .stat))
    (B : ∀ t m, getB b' t = some m → ∃ d c md, getB b d = some md ∧ c + m ≤ md ∧ g'.bx t = ((g.bx d).1, (g.bx d).2 + c)) :
    (∀ q, (enterC C.N0 W fo' b' g').ob q → C.W0.heap.size ≤ q ∨ C.ob q) ∧ ∀ q i, (enterC C.N0 W fo' b' g').own q i → C.W0.heap.size ≤ q ∨ C.own q i := by
  have hne : ∀ L n', fo' L = some n' → (g'.hd L).cap ≠ 0 → ∃ n, fo (φ L) = some n ∧ Sim g g' L (φ L) (σ L) n' n ∧ (n'.ro = .own → n.ro = .own) ∧ (n'.ro = .stat → n.ro = .stat) := by
    intro L n' hn hc
    rcases H L n' hn with ⟨_, h2, _⟩ | h1
    · exact (hc h2).elim
    · exact h1
  constructor
  · rintro q (⟨L, n, hn, ho, hq⟩ | ⟨t, m, ht, rfl⟩)
    · obtain ⟨n1, h1, h2, h3, _⟩ := hne L n hn (blk_cap hq)
      have hq1 := h2.blk hq
      obtain ⟨q', o, _, _, ha, _⟩ := (h.node _ n1 h1).mem (blk_cap hq1)
      obtain ⟨a, ha', rfl⟩ := blk_addr hq1
      rw [ha] at ha'
      obtain rfl := Option.some.inj ha'
      exact (h.src _ n1 q' o h1 (h3 ho) (blk_cap hq1) ha).imp id (·.1)
    · obtain ⟨d, c', md, hd, hle, hb⟩ := B t m ht
      rw [hb]
      exact (h.srb d md hd).imp id (·.1)
  · rintro q i (⟨L, n, o, k, hn, ho, hc, ha, hk, rfl⟩ | ⟨t, m, k, ht, rfl, hk, rfl⟩)
    · obtain ⟨n1, h1, h2, h3, _⟩ := hne L n hn hc
      obtain ⟨q', o', e1, e2⟩ := h2.a hc
      rw [ha] at e2
      obtain ⟨rfl, rfl⟩ : q = q' ∧ o = o' + σ L * n1.es := by simpa using e2
      have hcap : (g.hd (φ L)).cap * n1.es = (g'.hd L).cap * n1.es + σ L * n1.es := by rw [← h2.cap, Nat.add_mul]
      refine (h.src _ n1 q o' h1 (h3 ho) (by have := h2.cap; omega) e1).imp id fun hs => ?_
      have := hs.2 (σ L * n1.es + k) (by rw [h2.es] at hk; omega)
      rwa [← Nat.add_assoc] at this
    · obtain ⟨d, c', md, hd, hle, hb⟩ := B t m ht
      rw [hb]
      refine (h.srb d md hd).imp id fun hs => ?_
      have := hs.2 (c' + k) (by omega)
      rwa [← Nat.add_assoc] at this

theorem Frame'.merge {C' : Ctx} (h : Frame' C W) (h' : Frame' C' W') (hW : C'.W0 = W) (hob : ∀ q, C'.ob q → C.W0.heap.size ≤ q ∨ C.ob q) (hown : ∀ q i, C'.own q i → C.W0.heap.size ≤ q ∨ C.own q i) : Frame' C W' := by
  subst hW
  refine ⟨h'.os.trans h.os, h'.tape.trans h.tape, h'.output.trans h.output, Nat.le_trans h.size h'.size, fun q hq ho => ?_, fun q i hq ho => ?_, fun q hq => ?_, fun q i hq => ?_⟩ <;> have hq' := Nat.lt_of_lt_of_le hq h.size
  · exact (h'.block q hq' fun hx => (hob q hx).elim (fun e => by omega) ho).trans (h.block q hq ho)
  · exact (h'.cell q i hq' fun hx => (hown q i hx).elim (fun e => by omega) ho).trans (h.cell q i hq ho)
  · exact (h'.shape q hq').trans (h.shape q hq)
  · exact (h'.frozen q i hq').trans (h.frozen q i hq)

theorem FInv.merge {C' : Ctx} (h : FInv C fo b W g) (h' : FInv C' fo' b' W' g') (hW : C'.W0 = W) (hN : C'.N0 = C.N0)
    (hob : ∀ q, C'.ob q → C.W0.heap.size ≤ q ∨ C.ob q) (hown : ∀ q i, C'.own q i → C.W0.heap.size ≤ q ∨ C.own q i) (hlent : ∀ L n, fo' L = some n → n.ro ≠ .lent)
    {fo'' : NSet} {b'' : List (Nat × Nat)} {g'' : Gh} (φ : GLoc → Bool × GLoc)
    (H : ∀ L n'', fo'' L = some n'' → ((φ L).1 = false ∧ ∃ n, fo (φ L).2 = some n ∧ n''.ro = n.ro ∧ Sim g g'' L (φ L).2 0 n'' n ∧ ∀ q, (g.hd (φ L).2).blk = some q → ¬ C'.ob q) ∨
      ((φ L).1 = true ∧ ∃ n, fo' (φ L).2 = some n ∧ n''.ro = n.ro ∧ Sim g' g'' L (φ L).2 0 n'' n))
    (inj : ∀ L L' n n', fo'' L = some n → fo'' L' = some n' → n.ro = .own → φ L = φ L' → L = L')
    (β : Nat → Option Nat)
    (B : ∀ d m, getB b'' d = some m → (β d = none ∧ getB b d = some m ∧ g''.bx d = g.bx d ∧ ¬ C'.ob (g.bx d).1) ∨
      (∃ t m', β d = some t ∧ getB b d = some m ∧ g''.bx d = g.bx d ∧ getB b' t = some m' ∧ (g'.bx t).1 = (g.bx d).1 ∧ ∀ i, C'.own (g.bx d).1 i → ∃ k, k < m' ∧ i = (g'.bx t).2 + k) ∨
      (∃ t, β d = some t ∧ getB b' t = some m ∧ g''.bx d = g'.bx t))
    (Binj : ∀ d d' t m m', getB b'' d = some m → getB b'' d' = some m' → β d = some t → β d' = some t → d = d') : FInv C fo'' b'' W' g'' := by
  have hfr := h.fr.merge h'.fr hW hob hown
  have hsz : W.heap.size ≤ W'.heap.size := by rw [← hW]; exact h'.fr.size
  have hsame : ∀ q, q < W.heap.size → ¬ C'.ob q → W'.heap[q]? = W.heap[q]? := fun q hq ho => by
    have := h'.fr.block q (by rw [hW]; exact hq) ho
    rwa [hW] at this
  -- a called function's block is new or was handed, or is nobody's
  have hblk : ∀ L n, fo' L = some n → ∀ q, (g'.hd L).blk = some q → W.heap.size ≤ q ∨ C'.ob q ∨ q < C.N0 := by
    intro L n hn q hq
    cases ho : n.ro with
    | own =>
      obtain ⟨q', o, _, _, ha, _⟩ := (h'.node L n hn).mem (blk_cap hq)
      obtain ⟨a, ha', rfl⟩ := blk_addr hq
      rw [ha] at ha'
      obtain rfl := Option.some.inj ha'
      have := h'.src L n q' o hn ho (blk_cap hq) ha
      rw [hW] at this
      exact this.imp id fun hs => .inl hs.1
    | lent => exact (hlent L n hn ho).elim
    | stat => exact .inr (.inr (hN ▸ h'.stat L n q hn ho hq))
  have hbxb : ∀ t m, getB b' t = some m → W.heap.size ≤ (g'.bx t).1 ∨ C'.ob (g'.bx t).1 := by
    intro t m ht
    have := h'.srb t m ht
    rw [hW] at this
    exact this.imp id (·.1)
  refine ⟨fun L n hn => ?_, fun d m c hd hc => ?_, fun d m hd => ?_, fun L L' n n' hn hn' ho hne q hq hq' => ?_, fun L n d m hn hd hq => ?_, fun d d' m m' hd hd' hne => ?_, fun L n q o hn ho hc ha => ?_, fun d m hd => ?_, fun L n q hn ho hq => ?_, fun L n q hn ho hq => ?_, hfr, h.n0, h.own⟩
  · rcases H L n hn with ⟨_, m, h1, h2, h3, h4⟩ | ⟨_, m, h1, h2, h3⟩
    · have hk := h3.nodeOk (fun e => h2 ▸ e) (h.node _ _ h1)
      refine hk.world fun q hq => ?_
      have hq' := h3.blk hq
      have e := hsame q ((h.node _ _ h1).lt hq') (h4 q hq')
      exact ⟨shape_of_heap e, fun i => ⟨cell_of_heap e, frozen_of_heap e⟩⟩
    · exact h3.nodeOk (fun e => h2 ▸ e) (h'.node _ _ h1)
  · rcases B d m hd with ⟨_, h1, h2, h3⟩ | ⟨t, m', _, h1, h2, h3, h4, h5⟩ | ⟨t, _, h1, h2⟩
    · rw [h2]
      obtain ⟨⟨x, hx⟩, hf⟩ := h.box d m c h1 hc
      have e := hsame _ (h.boxlt d m h1) h3
      exact ⟨⟨x, (cell_of_heap e).trans hx⟩, (frozen_of_heap e).trans hf⟩
    · rw [h2]
      obtain ⟨⟨x, hx⟩, hf⟩ := h.box d m c h1 hc
      have hlt := h.boxlt d m h1
      have hfz := h'.fr.frozen (g.bx d).1 ((g.bx d).2 + c) (by rw [hW]; exact hlt)
      rw [hW] at hfz
      refine ⟨?_, hfz.trans hf⟩
      by_cases ho : C'.own (g.bx d).1 ((g.bx d).2 + c)
      · obtain ⟨k, hk, e⟩ := h5 _ ho
        obtain ⟨hx', _⟩ := h'.box t m' k h3 hk
        rw [e, ← h4]
        exact hx'
      · have := h'.fr.cell (g.bx d).1 ((g.bx d).2 + c) (by rw [hW]; exact hlt) ho
        rw [hW] at this
        exact ⟨x, this.trans hx⟩
    · rw [h2]; exact h'.box t m c h1 hc
  · rcases B d m hd with ⟨_, h1, h2, _⟩ | ⟨t, m', _, h1, h2, _⟩ | ⟨t, _, h1, h2⟩
    · rw [h2]; exact Nat.lt_of_lt_of_le (h.boxlt d m h1) hsz
    · rw [h2]; exact Nat.lt_of_lt_of_le (h.boxlt d m h1) hsz
    · rw [h2]; exact h'.boxlt t m h1
  · rcases H L n hn with ⟨f1, m, h1, h2, h3, h4⟩ | ⟨f1, m, h1, h2, h3⟩ <;> rcases H L' n' hn' with ⟨f1', m', h1', h2', h3', h4'⟩ | ⟨f1', m', h1', h2', h3'⟩
    · exact h.x1 _ _ m m' h1 h1' (h2 ▸ ho) (fun e => hne (inj L L' n n' hn hn' ho (Prod.ext (f1.trans f1'.symm) e))) q (h3.blk hq) (h3'.blk hq')
    · have hb := h3.blk hq
      rcases hblk _ _ h1' q (h3'.blk hq') with h5 | h5 | h5
      · have := (h.node _ _ h1).lt hb; omega
      · exact h4 q hb h5
      · have := h.ownN0 h1 (h2 ▸ ho) hb; omega
    · have hb := h3.blk hq
      have hb' := h3'.blk hq'
      rcases hblk _ _ h1 q hb with h5 | h5 | h5
      · have := (h.node _ _ h1').lt hb'; omega
      · exact h4' q hb' h5
      · have := h'.ownN0 h1 (h2 ▸ ho) hb
        omega
    · exact h'.x1 _ _ m m' h1 h1' (h2 ▸ ho) (fun e => hne (inj L L' n n' hn hn' ho (Prod.ext (f1.trans f1'.symm) e))) q (h3.blk hq) (h3'.blk hq')
  · rcases H L n hn with ⟨_, n1, h1, h2, h3, h4⟩ | ⟨_, n1, h1, h2, h3⟩ <;> rcases B d m hd with ⟨_, k1, k2, k3⟩ | ⟨t, m', _, k1, k2, k3, k4, _⟩ | ⟨t, _, k1, k2⟩ <;> rw [k2] at hq <;> have hb := h3.blk hq
    · exact h.x2 _ n1 d m h1 k1 hb
    · exact h.x2 _ n1 d m h1 k1 hb
    · rcases hbxb t m k1 with h5 | h5
      · have := (h.node _ _ h1).lt hb; omega
      · exact h4 _ hb h5
    · rcases hblk _ _ h1 _ hb with h5 | h5 | h5
      · have := h.boxlt d m k1; omega
      · exact k3 h5
      · have := h.boxN0 k1; omega
    · exact h'.x2 _ n1 t m' h1 k3 (k4 ▸ hb)
    · exact h'.x2 _ n1 t m h1 k1 hb
  · rcases B d m hd with ⟨_, k1, k2, k3⟩ | ⟨t, n1, f1, k1, k2, k3, k4, _⟩ | ⟨t, f1, k1, k2⟩ <;> rcases B d' m' hd' with ⟨_, k1', k2', k3'⟩ | ⟨t', n1', f1', k1', k2', k3', k4', _⟩ | ⟨t', f1', k1', k2'⟩ <;> rw [k2, k2']
    · exact h.x3 d d' m m' k1 k1' hne
    · exact h.x3 d d' m m' k1 k1' hne
    · intro e
      rcases hbxb t' m' k1' with h5 | h5
      · have := h.boxlt d m k1; omega
      · exact k3 (e ▸ h5)
    · exact h.x3 d d' m m' k1 k1' hne
    · exact h.x3 d d' m m' k1 k1' hne
    · rw [← k4]
      exact h'.x3 t t' n1 m' k3 k1' (fun e => hne (Binj d d' t m m' hd hd' f1 (e ▸ f1')))
    · intro e
      rcases hbxb t m k1 with h5 | h5
      · have := h.boxlt d' m' k1'; omega
      · exact k3' (e ▸ h5)
    · rw [← k4']
      exact h'.x3 t t' m n1' k1 k3' (fun e => hne (Binj d d' t m m' hd hd' f1 (e ▸ f1')))
    · exact h'.x3 t t' m m' k1 k1' (fun e => hne (Binj d d' t m m' hd hd' f1 (e ▸ f1')))
  · rcases H L n hn with ⟨_, n1, h1, h2, h3, _⟩ | ⟨_, n1, h1, h2, h3⟩
    · obtain ⟨q', o', e1, e2⟩ := h3.a hc
      rw [ha] at e2
      obtain ⟨rfl, rfl⟩ : q = q' ∧ o = o' := by simpa using e2
      have hcap := h3.cap
      have := h.src _ n1 q o h1 (h2 ▸ ho) (by omega) e1
      rw [h3.es]
      rw [show (g''.hd L).cap = (g.hd (φ L).2).cap by omega]
      exact this
    · obtain ⟨q', o', e1, e2⟩ := h3.a hc
      rw [ha] at e2
      obtain ⟨rfl, rfl⟩ : q = q' ∧ o = o' := by simpa using e2
      have hcap := h3.cap
      have hs := h'.src _ n1 q o h1 (h2 ▸ ho) (by omega) e1
      rw [hW] at hs
      rw [h3.es, show (g''.hd L).cap = (g'.hd (φ L).2).cap by omega]
      rcases hs with hs | hs
      · exact .inl (Nat.le_trans h.fr.size hs)
      · by_cases hlt : C.W0.heap.size ≤ q
        · exact .inl hlt
        · exact .inr ⟨(hob q hs.1).resolve_left hlt, fun k hk => (hown q _ (hs.2 k hk)).resolve_left hlt⟩
  · rcases B d m hd with ⟨_, k1, k2, _⟩ | ⟨t, n1, _, k1, k2, _⟩ | ⟨t, _, k1, k2⟩ <;> rw [k2]
    · exact h.srb d m k1
    · exact h.srb d m k1
    · have hs := h'.srb t m k1
      rw [hW] at hs
      rcases hs with hs | hs
      · exact .inl (Nat.le_trans h.fr.size hs)
      · by_cases hlt : C.W0.heap.size ≤ (g'.bx t).1
        · exact .inl hlt
        · exact .inr ⟨(hob _ hs.1).resolve_left hlt, fun k hk => (hown _ _ (hs.2 k hk)).resolve_left hlt⟩
  · rcases H L n hn with ⟨_, n1, h1, h2, h3, _⟩ | ⟨_, n1, h1, h2, h3⟩
    · exact h.lent _ n1 q h1 (h2 ▸ ho) (h3.blk hq)
    · exact (hlent _ n1 h1 (h2 ▸ ho)).elim
  · rcases H L n hn with ⟨_, n1, h1, h2, h3, _⟩ | ⟨_, n1, h1, h2, h3⟩
    · exact h.stat _ n1 q h1 (h2 ▸ ho) (h3.blk hq)
    · rw [← hN]; exact h'.stat _ n1 q h1 (h2 ▸ ho) (h3.blk hq)

end
end Go.Proofs.Ytekfjbejfondnaa.Tom
/-! A call's beginning: the arguments as the called function's frame. -/
namespace Go.Proofs.Ytekfjbejfondnaa.Tom
open Go

def isP (l : List (Hand × V)) (t : Nat) : Bool := match l[t]? with | some (.cells _, _) => true | _ => false
def srcV (l : List (Hand × V)) (k : Key) : V := match l[k.1]? with | some (_, v) => ((flatV v)[k.2]?).getD .un | none => .un
def entφ (l : List (Hand × V)) (L : GLoc) : GLoc := if isP l L.k.1 then L else match srcV l L.k with | .sl M off _ => ⟨0, M.key, M.path ++ shiftP off L.p⟩ | _ => L
def entσ (l : List (Hand × V)) (L : GLoc) : Nat := if isP l L.k.1 then 0 else if L.p = [] then (match srcV l L.k with | .sl _ off _ => off | _ => 0) else 0
def hdOf : Value → Hd
  | .slice a _ c => ⟨a, c⟩
  | _ => ⟨none, 0⟩
def srcX (l : List (Hand × V)) (xs : List Value) (k : Key) : Value := match l[k.1]?, xs[k.1]? with | some (_, v), some x => ((flatX v x)[k.2]?).getD undef | _, _ => undef
def entG (l : List (Hand × V)) (xs : List Value) (g1 : Gh) : Gh :=
  ⟨fun L => if isP l L.k.1 then g1.hd L else if L.p = [] then hdOf (srcX l xs L.k) else g1.hd (entφ l L), fun t => match l[t]? with | some (.cells _, .bx d c) => ((g1.bx d).1, (g1.bx d).2 + c) | _ => (0, 0)⟩
def entD (l : List (Hand × V)) (as : List T) (D1 : Key → Option Node) : Key → Option Node := fun k => if isP l k.1 then D1 k else match as[k.1]? with | some a => ((flatT a)[k.2]?).bind (T.node .own) | none => none
def ptrB : Nat → List (Hand × V) → List (Nat × Nat)
  | _, [] => []
  | t, (.cells fs, _) :: l => (t, fs.length) :: ptrB (t + 1) l
  | t, _ :: l => ptrB (t + 1) l

/-- Another right: what is lent is lent all the way down. -/
theorem walk_ro (p : Path) : ∀ {r1 r2 : Ro} {es : Nat} {el : List (List T)} {n1 : Node}, (r1 = .lent ∨ r1 = r2) → walk ⟨r1, es, el⟩ p = some n1 → ∃ n2, walk ⟨r2, es, el⟩ p = some n2 ∧ n2.es = n1.es ∧ n2.el = n1.el ∧ (n1.ro = .lent ∨ n1.ro = n2.ro) := by
  induction p with
  | nil =>
    intro r1 r2 es el n1 hr h
    obtain rfl := Option.some.inj h
    exact ⟨_, rfl, rfl, rfl, hr⟩
  | cons s p ih =>
    obtain ⟨i, j⟩ := s
    intro r1 r2 es el n1 hr h
    rw [walk_cons] at h
    obtain ⟨t, ht, h⟩ := Option.bind_eq_some_iff.1 h
    obtain ⟨m, hm, h⟩ := Option.bind_eq_some_iff.1 h
    cases t with
    | arr o e l =>
      obtain rfl := Option.some.inj hm
      have hr' : r1.under o = .lent ∨ r1.under o = r2.under o := by
        rcases hr with rfl | rfl
        · exact .inl rfl
        · exact .inr rfl
      obtain ⟨n2, h1, h2⟩ := ih hr' h
      refine ⟨n2, ?_, h2⟩
      rw [walk_cons, show cellAt (Node.mk r2 es el).el i j = some (.arr o e l) from ht]
      exact h1
    | _ => cases hm

theorem shiftP_zero (p : Path) : shiftP 0 p = p := by
  cases p with
  | nil => rfl
  | cons x p => obtain ⟨i, j⟩ := x; rfl

theorem pfx_of_append : ∀ {a b p q : Path} {s : Nat}, a ++ p = b ++ shiftP s q → pfx a b = true ∨ pfx b a = true
  | [], b, _, _, _, _ => .inl (by cases b <;> rfl)
  | _ :: _, [], _, _, _, _ => .inr rfl
  | (i, j) :: a, (i', j') :: b, p, q, s, h => by
    simp only [List.cons_append, List.cons.injEq, Prod.mk.injEq] at h
    obtain ⟨⟨rfl, rfl⟩, h⟩ := h
    exact (pfx_of_append h).imp (by simp [pfx]) (by simp [pfx])

theorem meets_of_append {L M : Loc} {p q : Path} {s : Nat} (hk : L.key = M.key) (h : L.path ++ p = M.path ++ shiftP s q) : L.meets M = true := by
  have := pfx_of_append h
  simp only [Loc.meets, hk, beq_self_eq_true, Bool.true_and, Bool.or_eq_true]
  exact this

theorem meets_comm (L M : Loc) : L.meets M = M.meets L := by
  simp only [Loc.meets]
  rw [Bool.or_comm]
  congr 1
  exact Bool.eq_iff_iff.2 ⟨fun h => beq_iff_eq.2 (beq_iff_eq.1 h).symm, fun h => beq_iff_eq.2 (beq_iff_eq.1 h).symm⟩

theorem nones_ok {l m : List Loc} (h : nones l m = true) {L M : Loc} (hL : L ∈ l) (hM : M ∈ m) : L.meets M = false := by
  have := List.all_eq_true.1 (List.all_eq_true.1 h L hL) M hM
  simpa using this

theorem apart_ok : ∀ {l : List (Hand × V)}, apart l = true → ∀ (t t' : Nat) (x x' : Hand × V), t ≠ t' → l[t]? = some x → l[t']? = some x' → ∀ L ∈ claims x.1 x.2, ∀ M ∈ x'.2.locs, L.meets M = false
  | [], _, t, _, x, _, _, h, _ => by simp at h
  | (h, v) :: l, ha, t, t', x, x', hne, h1, h2 => by
    simp only [apart, Bool.and_eq_true] at ha
    obtain ⟨⟨_, ha2⟩, ha3⟩ := ha
    intro L hL M hM
    cases t with
    | zero =>
      obtain rfl := Option.some.inj h1
      cases t' with
      | zero => exact (hne rfl).elim
      | succ t' =>
        have := List.all_eq_true.1 ha2 x' (List.mem_of_getElem? (by simpa using h2))
        simp only [Bool.and_eq_true] at this
        exact nones_ok this.1 hL hM
    | succ t =>
      cases t' with
      | zero =>
        obtain rfl := Option.some.inj h2
        have := List.all_eq_true.1 ha2 x (List.mem_of_getElem? (by simpa using h1))
        simp only [Bool.and_eq_true] at this
        rw [meets_comm]
        exact nones_ok this.2 hM hL
      | succ t' => exact apart_ok ha3 t t' x x' (fun e => hne (by rw [e])) (by simpa using h1) (by simpa using h2) L hL M hM

theorem apart_dup : ∀ {l : List (Hand × V)}, apart l = true → ∀ (t : Nat) (x : Hand × V), l[t]? = some x → nodupL (claims x.1 x.2) = true
  | [], _, t, x, h => by simp at h
  | (h, v) :: l, ha, t, x, h1 => by
    simp only [apart, Bool.and_eq_true] at ha
    cases t with
    | zero => obtain rfl := Option.some.inj h1; exact ha.1.1
    | succ t => exact apart_dup ha.2 t x (by simpa using h1)

theorem nodupL_app : ∀ {l m : List Loc}, nodupL (l ++ m) = true → nodupL m = true ∧ ∀ L ∈ l, ∀ M ∈ m, L.meets M = false
  | [], m, h => ⟨h, by simp⟩
  | L :: l, m, h => by
    simp only [List.cons_append, nodupL, Bool.and_eq_true] at h
    obtain ⟨i1, i2⟩ := nodupL_app h.2
    refine ⟨i1, fun N hN M hM => ?_⟩
    rcases List.mem_cons.1 hN with rfl | hN
    · have := List.all_eq_true.1 h.1 M (List.mem_append_right _ hM)
      simpa using this
    · exact i2 N hN M hM

theorem locsL_get {l : List V} {k : Nat} {v : V} (h : l[k]? = some v) {M : Loc} (hM : M ∈ v.locs) : M ∈ locsL l := by
  induction l generalizing k with
  | nil => simp at h
  | cons u l ih =>
    simp only [locsL, List.mem_append]
    cases k with
    | zero => obtain rfl := Option.some.inj h; exact .inl hM
    | succ k => exact .inr (ih (by simpa using h))

theorem locsL_dup : ∀ {l : List V}, nodupL (locsL l) = true → ∀ (k k' : Nat) (v v' : V), k < k' → l[k]? = some v → l[k']? = some v' → ∀ L ∈ v.locs, ∀ M ∈ v'.locs, L.meets M = false
  | [], _, k, _, _, _, _, h, _ => by simp at h
  | u :: l, h, k, k', v, v', hk, h1, h2 => by
    simp only [locsL] at h
    obtain ⟨i1, i2⟩ := nodupL_app h
    intro L hL M hM
    cases k' with
    | zero => omega
    | succ k' =>
      cases k with
      | zero =>
        obtain rfl := Option.some.inj h1
        exact i2 L hL M (locsL_get (by simpa using h2) hM)
      | succ k => exact locsL_dup i1 k k' v v' (by omega) (by simpa using h1) (by simpa using h2) L hL M hM

theorem flatVs_locs : ∀ {l : List V} {k : Nat} {v : V}, (flatVs l)[k]? = some v → ∀ M ∈ v.locs, M ∈ locsL l
  | [], k, v, h, M, _ => by simp [flatVs] at h
  | u :: l, k, v, h, M, hM => by
    simp only [locsL, List.mem_append]
    by_cases ha : ∃ cs, u = .agg cs
    · obtain ⟨cs, rfl⟩ := ha
      simp only [flatVs] at h
      by_cases hk : k < cs.length
      · rw [List.getElem?_append_left hk] at h
        exact .inl (locsL_get h hM)
      · rw [List.getElem?_append_right (by omega)] at h
        exact .inr (flatVs_locs h M hM)
    · have e : flatVs (u :: l) = u :: flatVs l := by cases u <;> first | rfl | exact (ha ⟨_, rfl⟩).elim
      rw [e] at h
      cases k with
      | zero => obtain rfl := Option.some.inj h; exact .inl hM
      | succ k => exact .inr (flatVs_locs (by simpa using h) M hM)

theorem flatV_locs {v u : V} {k : Nat} (h : (flatV v)[k]? = some u) {M : Loc} (hM : M ∈ u.locs) : M ∈ v.locs := by
  by_cases ha : ∃ l, v = .agg l
  · obtain ⟨l, rfl⟩ := ha
    exact locsL_get h hM
  by_cases hf : ∃ f l, v = .fn f l
  · obtain ⟨f, l, rfl⟩ := hf
    exact flatVs_locs h M hM
  · have e : flatV v = [v] := by cases v <;> first | rfl | exact (ha ⟨_, rfl⟩).elim | exact (hf ⟨_, _, rfl⟩).elim
    rw [e] at h
    cases k with
    | zero => obtain rfl := Option.some.inj h; exact hM
    | succ k => simp at h

/-- Two cells of one argument that is handed. -/
theorem claims_dup {h : Hand} {v u u' : V} {k k' : Nat} (hd : nodupL (claims h v) = true) (ho : h.own = true) (hk : k ≠ k') (h1 : (flatV v)[k]? = some u) (h2 : (flatV v)[k']? = some u') (hfn : ∀ f l, v ≠ .fn f l) {L M : Loc} (hL : L ∈ u.locs) (hM : M ∈ u'.locs) : L.meets M = false := by
  have hc : claims h v = v.locs := by cases h <;> first | rfl | cases ho
  rw [hc] at hd
  by_cases ha : ∃ l, v = .agg l
  · obtain ⟨l, rfl⟩ := ha
    rcases Nat.lt_or_gt_of_ne hk with hlt | hlt
    · exact locsL_dup hd k k' u u' hlt h1 h2 L hL M hM
    · rw [meets_comm]; exact locsL_dup hd k' k u' u hlt h2 h1 M hM L hL
  · have e : flatV v = [v] := by cases v <;> first | rfl | exact (ha ⟨_, rfl⟩).elim | exact (hfn _ _ rfl).elim
    rw [e] at h1 h2
    have := (List.getElem?_eq_some_iff.1 h1).1
    have := (List.getElem?_eq_some_iff.1 h2).1
    simp at *
    omega

theorem ptrB_get : ∀ {l : List (Hand × V)} {t0 t m : Nat}, getB (ptrB t0 l) t = some m → t0 ≤ t ∧ ∃ fs v, l[t - t0]? = some (.cells fs, v) ∧ m = fs.length
  | [], t0, t, m, h => by cases h
  | (hd, v) :: l, t0, t, m, h => by
    have rest : getB (ptrB (t0 + 1) l) t = some m → t0 ≤ t ∧ ∃ fs v', ((hd, v) :: l)[t - t0]? = some (.cells fs, v') ∧ m = fs.length := fun h => by
      obtain ⟨h1, fs, v', h2, h3⟩ := ptrB_get h
      refine ⟨by omega, fs, v', ?_, h3⟩
      rw [show t - t0 = (t - (t0 + 1)) + 1 by omega]
      simpa using h2
    cases hd with
    | cells fs =>
      simp only [ptrB, getB] at h
      split at h
      · rename_i e
        subst e
        obtain rfl := Option.some.inj h
        exact ⟨Nat.le_refl _, fs, v, by simp, rfl⟩
      · exact rest h
    | _ => exact rest h

theorem ptrB_some : ∀ {l : List (Hand × V)} {t0 i : Nat} {fs : Fat} {v : V}, l[i]? = some (.cells fs, v) → getB (ptrB t0 l) (t0 + i) = some fs.length
  | [], t0, i, fs, v, h => by simp at h
  | (hd, u) :: l, t0, 0, fs, v, h => by
    obtain ⟨rfl, rfl⟩ := Prod.mk.inj (Option.some.inj h)
    simp [ptrB, getB]
  | (hd, u) :: l, t0, i + 1, fs, v, h => by
    have ih := ptrB_some (t0 := t0 + 1) (l := l) (i := i) (by simpa using h)
    rw [show t0 + 1 + i = t0 + (i + 1) by omega] at ih
    cases hd with
    | cells gs =>
      simp only [ptrB, getB]
      rw [if_neg (by omega)]
      exact ih
    | _ => exact ih

theorem ptrs_nodup : ∀ {l : List (Hand × V)}, nodupB (ptrsOf l) = true → ∀ (t t' : Nat) (fs fs' : Fat) (d d' c c' : Nat), t ≠ t' → l[t]? = some (.cells fs, .bx d c) → l[t']? = some (.cells fs', .bx d' c') → d ≠ d'
  | [], _, t, _, _, _, _, _, _, _, _, h, _ => by simp at h
  | (hd, v) :: l, hn, t, t', fs, fs', d, d', c, c', hne, h1, h2 => by
    have hmem : ∀ {l : List (Hand × V)} {i : Nat} {fs : Fat} {d c : Nat}, l[i]? = some (.cells fs, .bx d c) → d ∈ ptrsOf l := by
      intro l
      induction l with
      | nil => intro i fs d c h; simp at h
      | cons x l ih =>
        intro i fs d c h
        obtain ⟨a, w⟩ := x
        cases i with
        | zero => obtain ⟨rfl, rfl⟩ := Prod.mk.inj (Option.some.inj h); simp [ptrsOf]
        | succ i =>
          have := ih (i := i) (by simpa using h)
          cases a <;> first | exact this | (cases w <;> first | exact this | exact List.mem_cons_of_mem _ this)
    have htail : nodupB (ptrsOf l) = true := by
      cases hd <;> first | exact hn | (cases v <;> first | exact hn | (simp only [ptrsOf, nodupB, Bool.and_eq_true] at hn; exact hn.2))
    cases t with
    | zero =>
      obtain ⟨rfl, rfl⟩ := Prod.mk.inj (Option.some.inj h1)
      cases t' with
      | zero => exact (hne rfl).elim
      | succ t' =>
        simp only [ptrsOf, nodupB, Bool.and_eq_true] at hn
        intro e
        subst e
        have := hmem (l := l) (i := t') (by simpa using h2)
        simp [this] at hn
    | succ t =>
      cases t' with
      | zero =>
        obtain ⟨rfl, rfl⟩ := Prod.mk.inj (Option.some.inj h2)
        simp only [ptrsOf, nodupB, Bool.and_eq_true] at hn
        intro e
        subst e
        have := hmem (l := l) (i := t) (by simpa using h1)
        simp [this] at hn
      | succ t' => exact ptrs_nodup htail t t' fs fs' d d' c c' (fun e => hne (by rw [e])) (by simpa using h1) (by simpa using h2)

end Go.Proofs.Ytekfjbejfondnaa.Tom
/-! A call's beginning: the called function's memory. -/
namespace Go.Proofs.Ytekfjbejfondnaa.Tom
open Go

theorem CsOk.congr {g g' : Gh} {D D' : Key → Option Node} {a : Nat} (hg : ∀ L, L.z = 1 → L.k.1 = a → g'.hd L = g.hd L) (hD : ∀ k, D' (a, k) = D (a, k)) : ∀ {ts : List T} {k : Nat} {xs : List Value}, CsOk g D a k ts xs → CsOk g' D' a k ts xs
  | [], _, _, h => h
  | t :: ts, k, xs, h => by
    obtain ⟨x, ys, rfl, h1, h2, h3⟩ := h
    exact ⟨x, ys, rfl, h1.same (sameHd_refl t) (fun _ _ _ _ => hg _ rfl rfl), (hD k).trans h2, h3.congr hg hD⟩

section
variable {C : Ctx} {S : St} {W : World} {g : Gh} {tm : Nat → Value}

/-- What a pointer that is handed is. -/
def PtrOk (g : Gh) (b : List (Nat × Nat)) (W : World) (g2 : Gh) (D2 : Key → Option Node) (a : Nat) (fs : Fat) (v : V) (t : Option T) (x : Option Value) : Prop :=
  ∃ d c m cs ys, v = .bx d c ∧ getB b d = some m ∧ c + fs.length ≤ m ∧ t = some (.ptr cs) ∧ cs.length = fs.length ∧ cleans cs = true ∧ x = some (.pointer (some ⟨(g.bx d).1, (g.bx d).2 + c, none⟩)) ∧
    CsOk g2 D2 a 0 cs ys ∧ ∀ (j : Nat) (v : Value), ys[j]? = some v → W.cell? ⟨(g.bx d).1, (g.bx d).2 + c + j, none⟩ = some v

theorem handPtrs_ok (h : Inv C S W g tm) : ∀ (l : List (Hand × V)) (t0 : Nat) (r r1 : Roots) (D : Key → Option Node) (g1 : Gh) (opts : List (Option T)) (xs : List Value),
    FInv C (atF (foD r D)) S.b W g1 → g1.bx = g.bx → (∀ L, L.z = 0 → g1.hd L = g.hd L) → Less S.r r → (∀ k, t0 ≤ k.1 → D k = none) → VsOk g (nR S.r) S.b (l.map (·.2)) xs → handPtrs S.e r S.b l = some (opts, r1) →
    ∃ g2 D2, FInv C (atF (foD r1 D2)) S.b W g2 ∧ g2.bx = g.bx ∧ (∀ L, L.z = 0 → g2.hd L = g.hd L) ∧ (∀ L, L.z = 1 → L.k.1 < t0 → g2.hd L = g1.hd L) ∧ Less S.r r1 ∧ (∀ k, k.1 < t0 → D2 k = D k) ∧ opts.length = l.length ∧
      ∀ (i : Nat) (hd : Hand) (v : V), l[i]? = some (hd, v) → (∀ fs, hd = .cells fs → PtrOk g S.b W g2 D2 (t0 + i) fs v ((opts[i]?).join) xs[i]?) ∧ ((∀ fs, hd ≠ .cells fs) → opts[i]? = some none)
  | [], t0, r, r1, D, g1, opts, xs, hf, hbx, hg, hle, hD, hv, hp => by
    obtain ⟨rfl, rfl⟩ := Prod.mk.inj (Option.some.inj hp)
    exact ⟨g1, D, hf, hbx, hg, fun _ _ _ => rfl, hle, fun _ _ => rfl, rfl, by simp⟩
  | (hd, v) :: l, t0, r, r1, D, g1, opts, xs, hf, hbx, hg, hle, hD, hv, hp => by
    obtain ⟨x, ys, rfl, hx, hys⟩ := hv
    by_cases hc : ∃ fs, hd = .cells fs
    · obtain ⟨fs, rfl⟩ := hc
      simp only [handPtrs] at hp
      obtain ⟨⟨t, r'⟩, h1, hp⟩ := Option.bind_eq_some_iff.1 hp
      obtain ⟨⟨us, r2⟩, h2, e⟩ := Option.map_eq_some_iff.1 hp
      simp only [Prod.mk.injEq] at e h2
      obtain ⟨rfl, rfl⟩ := e
      cases v <;> try (cases h1; done)
      case bx d c =>
        simp only [handA] at h1
        obtain ⟨m, hm, h1⟩ := Option.bind_eq_some_iff.1 h1
        split at h1
        · rename_i hle2
          obtain ⟨⟨cs, r3⟩, h3, h1⟩ := Option.bind_eq_some_iff.1 h1
          split at h1
          · rename_i hcl
            obtain ⟨rfl, rfl⟩ := Prod.mk.inj (Option.some.inj h1)
            obtain ⟨zs, hz1, hz2⟩ := boxCells_ok h hm fs.length c hle2
            have hz1' : VsOk g1 (atF (foD r D)) S.b (boxCells S.e d c fs.length) zs := hz1.same (fun L n' hn => by
              obtain ⟨m1, e1, e2⟩ := hle L n' hn
              exact ⟨m1, e1, e2.es, hg _ rfl⟩) (fun d m hd => ⟨m, hd, by rw [hbx]⟩)
            obtain ⟨g', D', q1, q2, q3, q4, q5, q6, q7, q8, q9⟩ := takeCs_ok (boxCells S.e d c fs.length) fs zs r r3 D g1 cs (fun j => (t0, j)) (fun i j e => (Prod.mk.inj e).2) hf hz1' h3 (fun k => hD _ (Nat.le_refl _))
            have hbl := boxCells_length S.e d fs.length c
            obtain ⟨g2, D2, i1, i2, i3, i4, i5, i6, i7, i8⟩ := handPtrs_ok h l (t0 + 1) r3 _ D' g' us ys q1 (q6.trans hbx) (fun L hz => (q7 L (fun e => by rw [hz] at e; cases e)).trans (hg L hz)) (hle.trans q8)
              (fun k hk => by rw [q5 k (fun j _ e => by rw [e] at hk; simp at hk; omega)]; exact hD k (by omega)) hys h2
            obtain ⟨a, e1, e2⟩ := hx
            obtain rfl := e2 m hm
            refine ⟨g2, D2, i1, i2, i3, fun L hz hk => (i4 L hz (by omega)).trans (q7 L (fun _ j _ e => by rw [e] at hk; simp at hk)), i5, fun k hk => (i6 k (by omega)).trans (q5 k (fun j _ e => by rw [e] at hk; simp at hk)), by simp [i7], fun i hd' v' hi => ?_⟩
            cases i with
            | zero =>
              obtain ⟨rfl, rfl⟩ := Prod.mk.inj (Option.some.inj hi)
              refine ⟨fun fs' e => ?_, fun hn => (hn fs rfl).elim⟩
              obtain rfl : fs = fs' := by injection e
              refine ⟨d, c, m, cs, zs, rfl, hm, hle2, rfl, by rw [q2, hbl], hcl, by rw [List.getElem?_cons_zero, e1], ?_, hz2⟩
              refine (CsOk.mk (g := g') (D := D') (by rw [hz1.length, q2]) fun j t x ht hx => ?_).congr (fun L hz hk => i4 L hz (by rw [hk]; omega)) (fun k => i6 _ (by simp))
              rw [Nat.zero_add]
              exact ⟨q3 j t x ht hx, q4 j t ht⟩
            | succ i =>
              have := i8 i hd' v' (by simpa using hi)
              rw [show t0 + 1 + i = t0 + (i + 1) by omega] at this
              simpa using this
          · cases h1
        · cases h1
    · have e0 : handPtrs S.e r S.b ((hd, v) :: l) = (handPtrs S.e r S.b l).map fun y => (none :: y.1, y.2) := by
        cases hd <;> first | rfl | exact (hc ⟨_, rfl⟩).elim
      rw [e0] at hp
      obtain ⟨⟨us, r2⟩, h2, e⟩ := Option.map_eq_some_iff.1 hp
      obtain ⟨rfl, rfl⟩ := Prod.mk.inj e
      obtain ⟨g2, D2, i1, i2, i3, i4, i5, i6, i7, i8⟩ := handPtrs_ok h l (t0 + 1) r _ D g1 us ys hf hbx hg hle (fun k hk => hD k (by omega)) hys h2
      refine ⟨g2, D2, i1, i2, i3, fun L hz hk => i4 L hz (by omega), i5, fun k hk => i6 k (by omega), by simp [i7], fun i hd' v' hi => ?_⟩
      cases i with
      | zero =>
        obtain ⟨rfl, rfl⟩ := Prod.mk.inj (Option.some.inj hi)
        exact ⟨fun fs e => (hc ⟨fs, e⟩).elim, fun _ => rfl⟩
      | succ i =>
        have := i8 i hd' v' (by simpa using hi)
        rw [show t0 + 1 + i = t0 + (i + 1) by omega] at this
        simpa using this

theorem handRest_ok {g : Gh} {fo : NSet} {b : List (Nat × Nat)} {e : Env} {r : Roots} {bb : List (Nat × Nat)} : ∀ (l : List (Hand × V)) (opts : List (Option T)) (as : List T) (xs : List Value), VsOk g fo b (l.map (·.2)) xs → opts.length = l.length → handRest e r bb l opts = some as →
    (∀ (i : Nat) (hd : Hand) (v : V), l[i]? = some (hd, v) → (∃ fs, hd = .cells fs) ∨ opts[i]? = some none) →
    as.length = l.length ∧ ∀ (i : Nat) (hd : Hand) (v : V), l[i]? = some (hd, v) → (∀ t, opts[i]? = some (some t) → as[i]? = some t) ∧ ((∀ fs, hd ≠ .cells fs) → ∃ a x, as[i]? = some a ∧ xs[i]? = some x ∧ ArgOk g fo b (CellArg r hd.own) v a x)
  | [], opts, as, xs, hv, hl, hr, _ => by
    have : as = [] := by
      cases opts with
      | nil => exact (Option.some.inj hr).symm
      | cons o opts => simp at hl
    subst this
    exact ⟨rfl, by simp⟩
  | (hd, v) :: l, [], as, xs, hv, hl, hr, _ => by simp at hl
  | (hd, v) :: l, some t :: opts, as, xs, hv, hl, hr, hn => by
    obtain ⟨x, ys, rfl, hx, hys⟩ := hv
    simp only [handRest] at hr
    obtain ⟨us, h1, rfl⟩ := Option.map_eq_some_iff.1 hr
    obtain ⟨i1, i2⟩ := handRest_ok l opts us ys hys (by simpa using hl) h1 (fun i hd' v' hi => by simpa using hn (i + 1) hd' v' (by simpa using hi))
    refine ⟨by simp [i1], fun i hd' v' hi => ?_⟩
    cases i with
    | zero =>
      obtain ⟨rfl, rfl⟩ := Prod.mk.inj (Option.some.inj hi)
      refine ⟨fun t' ht => by simpa using ht, fun hnc => ?_⟩
      rcases hn 0 _ _ rfl with ⟨fs, e⟩ | e
      · exact (hnc fs e).elim
      · cases e
    | succ i => simpa using i2 i hd' v' (by simpa using hi)
  | (hd, v) :: l, none :: opts, as, xs, hv, hl, hr, hn => by
    obtain ⟨x, ys, rfl, hx, hys⟩ := hv
    simp only [handRest] at hr
    obtain ⟨⟨a, r'⟩, h0, hr⟩ := Option.bind_eq_some_iff.1 hr
    obtain ⟨us, h1, rfl⟩ := Option.map_eq_some_iff.1 hr
    obtain ⟨i1, i2⟩ := handRest_ok l opts us ys hys (by simpa using hl) h1 (fun i hd' v' hi => by simpa using hn (i + 1) hd' v' (by simpa using hi))
    refine ⟨by simp [i1], fun i hd' v' hi => ?_⟩
    cases i with
    | zero =>
      obtain ⟨rfl, rfl⟩ := Prod.mk.inj (Option.some.inj hi)
      refine ⟨fun t' ht => by simp at ht, fun hnc => ⟨a, x, rfl, rfl, (handA_ok h0 hnc hx).2⟩⟩
    | succ i => simpa using i2 i hd' v' (by simpa using hi)

end
end Go.Proofs.Ytekfjbejfondnaa.Tom
/-! A call's beginning: the called function's memory is a part of the caller's. -/
namespace Go.Proofs.Ytekfjbejfondnaa.Tom
open Go

theorem cut_all (el : List (List T)) : cut el 0 el.length = el := by simp [cut]

theorem Sim.ro {g g' : Gh} {L M : GLoc} {s : Nat} {n' n2 n : Node} (h : Sim g g' L M s n2 n) (h1 : n'.es = n2.es) (h2 : n'.el = n2.el) : Sim g g' L M s n' n :=
  ⟨h1.trans h.es, h.cap, h.a, by rw [h2]; exact h.len, by rw [h1, h2]; exact h.rows, by rw [h2]; exact h.cells⟩

theorem foD_nil {D : Key → Option Node} {L : GLoc} {n : Node} (h : atF (foD [] D) L = some n) : L.z = 1 ∧ ∃ m, D L.k = some m ∧ walk m L.p = some n := by
  unfold atF foD at h
  by_cases hz : L.z = 0
  · rw [if_pos hz] at h; cases h
  · rw [if_neg hz] at h
    by_cases hz1 : L.z = 1
    · rw [if_pos hz1] at h
      obtain ⟨m, h1, h2⟩ := Option.bind_eq_some_iff.1 h
      exact ⟨hz1, m, h1, h2⟩
    · rw [if_neg hz1] at h; cases h

theorem atF_one {r : Roots} {D : Key → Option Node} {k : Key} {p : Path} {m n : Node} (h1 : D k = some m) (h2 : walk m p = some n) : atF (foD r D) ⟨1, k, p⟩ = some n := by
  unfold atF foD
  simp only
  rw [if_neg (by decide), if_pos trivial, h1]
  exact h2

theorem lend_own {r : Ro} : r.lend ≠ .own := by cases r <;> decide
theorem lend_or (r : Ro) : r.lend = .lent ∨ r.lend = r := by cases r <;> decide

/-- The facts about the arguments of a call. -/
structure Handed (S : St) (W : World) (g : Gh) (g1 : Gh) (r1 : Roots) (D1 : Key → Option Node) (l : List (Hand × V)) (as : List T) (xs : List Value) : Prop where
  len : as.length = l.length
  A : ∀ (t : Nat) (hd : Hand) (v : V), l[t]? = some (hd, v) → (∀ fs, hd ≠ .cells fs) → ∃ a x, as[t]? = some a ∧ xs[t]? = some x ∧ ArgOk g1 (atF (foD r1 D1)) S.b (CellArg r1 hd.own) v a x
  B : ∀ (t : Nat) (fs : Fat) (v : V), l[t]? = some (.cells fs, v) → PtrOk g S.b W g1 D1 t fs v as[t]? xs[t]?
  ap : apart l = true
  nd : nodupB (ptrsOf l) = true
  nf : ∀ (t : Nat) (hd : Hand) (v : V), l[t]? = some (hd, v) → hd.own = true → ∀ f c, v ≠ .fn f c
  xlen : ¬ as.length < xs.length
  hA : ∀ (t : Nat) (hd : Hand) (v : V), l[t]? = some (hd, v) → hd.own = true → ∃ a r', as[t]? = some a ∧ handA S.e r1 S.b hd v = some (a, r')

/-- What a root of the called function's frame is. -/
structure EntN (r1 : Roots) (g1 : Gh) (u : V) (y : Value) (own : Bool) (n : Node) where
  M : Loc
  off : Nat
  len : Nat
  m : Node
  a : Option Addr
  c : Nat
  hu : u = .sl M off len
  hm : nodeAt r1 M = some m
  hy : y = .slice a len c
  h1 : len ≤ c
  h2 : off + c = (g1.hd M.g).cap
  h3 : c ≠ 0 → ∃ q o, (g1.hd M.g).a = some ⟨q, o, none⟩ ∧ a = some ⟨q, o + off * m.es, none⟩
  h4 : off + len ≤ m.el.length
  es : n.es = m.es
  el : n.el = cut m.el off len
  ro : n.ro = .lent ∨ n.ro = m.ro
  ho : n.ro = .own → own = true ∧ off = 0

section
variable {C : Ctx} {S : St} {W : World} {g g1 : Gh} {tm : Nat → Value} {r1 : Roots} {D1 : Key → Option Node} {l : List (Hand × V)} {as : List T} {xs : List Value}

theorem isP_false {t : Nat} {hd : Hand} {v : V} (h : isP l t = false) (hl : l[t]? = some (hd, v)) : ∀ fs, hd ≠ .cells fs := by
  intro fs e
  subst e
  simp [isP, hl] at h

theorem Handed.node (hh : Handed S W g g1 r1 D1 l as xs) {k : Key} {n : Node} (hn : entD l as D1 k = some n) (hp : isP l k.1 = false) :
    ∃ hd v, l[k.1]? = some (hd, v) ∧ (∀ fs, hd ≠ .cells fs) ∧ (flatV v)[k.2]? = some (srcV l k) ∧
      ((n.el = [] ∧ n.ro ≠ .lent ∧ srcX l xs k = .slice none 0 0) ∨ Nonempty (EntN r1 g1 (srcV l k) (srcX l xs k) hd.own n)) := by
  unfold entD at hn
  rw [hp] at hn
  simp only [Bool.false_eq_true, if_false] at hn
  cases ha : as[k.1]? with
  | none => rw [ha] at hn; cases hn
  | some a =>
    rw [ha] at hn
    obtain ⟨w, hw, hn⟩ := Option.bind_eq_some_iff.1 hn
    have hkl : k.1 < l.length := by rw [← hh.len]; exact (List.getElem?_eq_some_iff.1 ha).1
    obtain ⟨⟨hd, v⟩, hl⟩ : ∃ z, l[k.1]? = some z := ⟨_, List.getElem?_eq_getElem hkl⟩
    have hnc := isP_false hp hl
    obtain ⟨a', x, ha', hx', hok⟩ := hh.A _ _ _ hl hnc
    rw [ha] at ha'
    obtain rfl := Option.some.inj ha'
    have hk2 : k.2 < (flatT a).length := (List.getElem?_eq_some_iff.1 hw).1
    have hlt := hok.cells.lt
    have hlx := hok.cells.lx
    have hu : (flatV v)[k.2]? = some (flatV v)[k.2] := List.getElem?_eq_getElem (by omega)
    have hy : (flatX v x)[k.2]? = some (flatX v x)[k.2] := List.getElem?_eq_getElem (by omega)
    have es : srcV l k = (flatV v)[k.2] := by simp only [srcV, hl, hu, Option.getD_some]
    have ex : srcX l xs k = (flatX v x)[k.2] := by simp only [srcX, hl, hx', hy, Option.getD_some]
    obtain ⟨hv, hc⟩ := hok.cells.ok _ _ _ _ hu hw hy
    rw [← es] at hv hc hu
    rw [← ex] at hv
    refine ⟨hd, v, hl, hnc, hu, ?_⟩
    generalize srcV l k = u at hv hc
    generalize srcX l xs k = y at hv
    cases u with
    | val z => simp only [CellArg] at hc; subst hc; cases hn
    | nil =>
      rcases hc with rfl | ⟨ro, es, rfl, hro⟩
      · cases hn
      · obtain rfl := Option.some.inj hn
        exact .inl ⟨rfl, hro, hv⟩
    | un => simp only [CellArg] at hc; subst hc; cases hn
    | sl M off len =>
      obtain ⟨m, hm, hc⟩ := hc
      obtain ⟨ad, c, rfl, hv⟩ := hv
      obtain ⟨e1, e2, e3⟩ := hv m hm
      split at hc
      · rename_i hown
        obtain ⟨c1, rfl, rfl, rfl⟩ := hc
        obtain rfl := Option.some.inj hn
        exact .inr ⟨⟨M, 0, _, m, ad, c, rfl, hm, rfl, e1, e2, e3, by omega, rfl, (cut_all _).symm, .inr c1.symm, fun _ => ⟨hown, rfl⟩⟩⟩
      · obtain ⟨c1, rfl⟩ := hc
        obtain rfl := Option.some.inj hn
        refine .inr ⟨⟨M, off, len, m, ad, c, rfl, hm, rfl, e1, e2, e3, c1, rfl, rfl, ?_, fun e => (lend_own e).elim⟩⟩
        exact lend_or m.ro
    | _ => exact hc.elim

/-- The ghost of the called function's frame, at a part of it. -/
theorem entG_hd {L : GLoc} (hp : isP l L.k.1 = false) (h : L.p = []) : (entG l xs g1).hd L = hdOf (srcX l xs L.k) := by simp [entG, hp, h]
theorem entG_hd' {L : GLoc} (hp : isP l L.k.1 = false) (h : L.p ≠ []) : (entG l xs g1).hd L = g1.hd (entφ l L) := by simp [entG, hp, h]
theorem entG_ptr {L : GLoc} (hp : isP l L.k.1 = true) : (entG l xs g1).hd L = g1.hd L := by simp [entG, hp]

theorem Handed.H (hh : Handed S W g g1 r1 D1 l as xs) (hf : FInv C (atF (foD r1 D1)) S.b W g1) (L : GLoc) (n' : Node) (hn : atF (foD [] (entD l as D1)) L = some n') :
    (n'.el = [] ∧ ((entG l xs g1).hd L).cap = 0 ∧ n'.ro ≠ .lent) ∨
      ∃ n, atF (foD r1 D1) (entφ l L) = some n ∧ Sim g1 (entG l xs g1) L (entφ l L) (entσ l L) n' n ∧ (n'.ro = .own → n.ro = .own) ∧ (n'.ro = .stat → n.ro = .stat) := by
  obtain ⟨hz, n, hD, hw⟩ := foD_nil hn
  obtain ⟨z, k, p⟩ := L
  simp only at hz hD hw
  subst hz
  cases hp : isP l k.1 with
  | true =>
    have hD1 : D1 k = some n := by simpa [entD, hp] using hD
    have hat := atF_one (r := r1) hD1 hw
    have hφ : entφ l ⟨1, k, p⟩ = ⟨1, k, p⟩ := by simp [entφ, hp]
    have hσ : entσ l ⟨1, k, p⟩ = 0 := by simp [entσ, hp]
    rw [hφ, hσ]
    exact .inr ⟨n', hat, sim_self (hf.node _ _ hat) (entG_ptr hp) (fun i j => entG_ptr (by exact hp)), id, id⟩
  | false =>
    obtain ⟨hd, v, hl, hnc, hu, hcase⟩ := hh.node hD hp
    rcases hcase with ⟨h1, h2, h3⟩ | ⟨⟨M, off, len, m, ad, c, hu', hm, hy, h1, h2, h3, h4, hes, hel, hro, ho⟩⟩
    · cases p with
      | nil =>
        obtain rfl := Option.some.inj hw
        refine .inl ⟨h1, ?_, h2⟩
        rw [entG_hd hp rfl, h3]
        rfl
      | cons s p =>
        obtain ⟨i, j⟩ := s
        rw [walk_cons, h1] at hw
        simp [cellAt] at hw
    · have hφ : ∀ q, entφ l ⟨1, k, q⟩ = ⟨0, M.key, M.path ++ shiftP off q⟩ := fun q => by simp [entφ, hp, hu']
      have hmF : atF (foD r1 D1) ⟨0, M.key, M.path⟩ = some m := hm
      have hok := hf.node M.g m hm
      cases p with
      | nil =>
        obtain rfl := Option.some.inj hw
        have hσ : entσ l ⟨1, k, []⟩ = off := by simp [entσ, hp, hu']
        have hhd : (entG l xs g1).hd ⟨1, k, []⟩ = ⟨ad, c⟩ := by rw [entG_hd hp rfl, hy]; rfl
        rw [hφ, hσ]
        simp only [shiftP, List.append_nil]
        refine .inr ⟨m, hmF, ⟨hes, by rw [hhd]; simp only; rw [← show off + c = (g1.hd ⟨0, M.key, M.path⟩).cap from h2, Nat.add_comm], fun hc => ?_, by rw [hhd, hel, length_cut _ _ _ h4]; exact h1, fun row hr => ?_, fun i j t ht => ?_⟩, fun e => ?_, fun e => ?_⟩
        · rw [hhd] at hc ⊢
          obtain ⟨q, o, e1, e2⟩ := h3 hc
          exact ⟨q, o, e1, e2⟩
        · rw [hel] at hr
          rw [hes]
          exact hok.rows row (mem_cut hr)
        · rw [hel] at ht
          obtain ⟨e1, e2⟩ := cellAt_cut_some ht
          refine ⟨t, e2, sameHd_refl t, fun _ _ _ _ => ?_⟩
          rw [entG_hd' (L := GLoc.ext ⟨1, k, []⟩ i j) hp (by simp [GLoc.ext])]
          show g1.hd (entφ l ⟨1, k, [(i, j)]⟩) = _
          rw [hφ]
          rfl
        · rcases hro with hro | hro
          · rw [hro] at e; cases e
          · rw [← hro]; exact e
        · rcases hro with hro | hro
          · rw [hro] at e; cases e
          · rw [← hro]; exact e
      | cons s p =>
        obtain ⟨n2, w1, w2, w3, w4⟩ := walk_ro (s :: p) (r1 := n.ro) (r2 := m.ro) (es := m.es) (el := cut m.el off len) hro (by rw [← hes, ← hel]; exact hw)
        have hw2 := walk_shift (n := m) rfl (by simp) w1
        have hat : atF (foD r1 D1) ⟨0, M.key, M.path ++ shiftP off (s :: p)⟩ = some n2 := by rw [atF_append, hmF, Option.bind_some]; exact hw2
        have hσ : entσ l ⟨1, k, s :: p⟩ = 0 := by simp [entσ, hp]
        rw [hφ, hσ]
        refine .inr ⟨n2, hat, (sim_self (hf.node _ _ hat) (entG_hd' (L := ⟨1, k, s :: p⟩) hp (by simp) |>.trans (by rw [hφ])) (fun i j => ?_)).ro w2.symm w3.symm, fun e => ?_, fun e => ?_⟩
        · rw [entG_hd' (L := GLoc.ext ⟨1, k, s :: p⟩ i j) hp (by simp [GLoc.ext])]
          show g1.hd (entφ l ⟨1, k, (s :: p) ++ [(i, j)]⟩) = _
          rw [hφ, shiftP_snoc (by simp)]
          simp only [GLoc.ext, List.append_assoc]
        · rcases w4 with w4 | w4
          · rw [w4] at e; cases e
          · rw [← w4]; exact e
        · rcases w4 with w4 | w4
          · rw [w4] at e; cases e
          · rw [← w4]; exact e

/-- An own part of the called function's frame: where it is of the caller's. -/
theorem Handed.ownPart (hh : Handed S W g g1 r1 D1 l as xs) {L : GLoc} {n' : Node} (hn : atF (foD [] (entD l as D1)) L = some n') (ho : n'.ro = .own) (hc : ((entG l xs g1).hd L).cap ≠ 0) :
    L.z = 1 ∧ ((isP l L.k.1 = true ∧ entφ l L = L) ∨ ∃ hd v M len, isP l L.k.1 = false ∧ l[L.k.1]? = some (hd, v) ∧ hd.own = true ∧ (flatV v)[L.k.2]? = some (.sl M 0 len) ∧ entφ l L = ⟨0, M.key, M.path ++ L.p⟩) := by
  obtain ⟨hz, n, hD, hw⟩ := foD_nil hn
  refine ⟨hz, ?_⟩
  obtain ⟨z, k, p⟩ := L
  simp only at hz hD hw hc ⊢
  subst hz
  cases hp : isP l k.1 with
  | true => exact .inl ⟨rfl, by simp [entφ, hp]⟩
  | false =>
    obtain ⟨hd, v, hl, hnc, hu, hcase⟩ := hh.node hD hp
    have hno := walk_own p hw ho
    rcases hcase with ⟨h1, h2, h3⟩ | ⟨⟨M, off, len, m, ad, c, hu', hm, hy, h1, h2, h3, h4, hes, hel, hro, hown⟩⟩
    · exfalso
      cases p with
      | nil => rw [entG_hd hp rfl, h3] at hc; exact hc rfl
      | cons s p =>
        obtain ⟨i, j⟩ := s
        rw [walk_cons, h1] at hw
        simp [cellAt] at hw
    · obtain ⟨f1, rfl⟩ := hown hno
      refine .inr ⟨hd, v, M, len, rfl, hl, f1, by rw [hu, hu'], by simp [entφ, hp, hu', shiftP_zero]⟩

theorem Handed.inj (hh : Handed S W g g1 r1 D1 l as xs) (L L' : GLoc) (n n' : Node) (hn : atF (foD [] (entD l as D1)) L = some n) (hn' : atF (foD [] (entD l as D1)) L' = some n')
    (hc : ((entG l xs g1).hd L).cap ≠ 0) (hc' : ((entG l xs g1).hd L').cap ≠ 0) (ho : n.ro = .own) (he : entφ l L = entφ l L') : L = L' := by
  obtain ⟨hz, h1⟩ := hh.ownPart hn ho hc
  obtain ⟨hz', m', hD', hw'⟩ := foD_nil hn'
  obtain ⟨z, k, p⟩ := L
  obtain ⟨z', k', p'⟩ := L'
  simp only at hz hz' hD' hw'
  subst hz hz'
  cases hp' : isP l k'.1 with
  | true =>
    have e' : entφ l ⟨1, k', p'⟩ = ⟨1, k', p'⟩ := by simp [entφ, hp']
    rw [e'] at he
    rcases h1 with ⟨_, h1⟩ | ⟨hd, v, M, len, _, _, _, _, h1⟩
    · rw [← h1, he]
    · rw [h1] at he; simp at he
  | false =>
    obtain ⟨hd', v', hl', hnc', hu', hcase⟩ := hh.node hD' hp'
    rcases hcase with ⟨e1, e2, e3⟩ | ⟨⟨M', off', len', m2, ad, c, hs', hm, hy, q1, q2, q3, q4, hes, hel, hro, hown'⟩⟩
    · exfalso
      cases p' with
      | nil => rw [entG_hd hp' rfl, e3] at hc'; exact hc' rfl
      | cons s p =>
        obtain ⟨i, j⟩ := s
        rw [walk_cons, e1] at hw'
        simp [cellAt] at hw'
    · have e' : entφ l ⟨1, k', p'⟩ = ⟨0, M'.key, M'.path ++ shiftP off' p'⟩ := by simp [entφ, hp', hs']
      rcases h1 with ⟨_, h1⟩ | ⟨hd, v, M, len, hp, hl, hown, hu, h1⟩
      · rw [h1, e'] at he; simp at he
      · rw [h1, e'] at he
        simp only [GLoc.mk.injEq, true_and] at he
        obtain ⟨hk, hpath⟩ := he
        have hmeet := meets_of_append hk hpath
        simp only at hl hu hp
        rw [hs'] at hu'
        have hclaim : claims hd v = v.locs := by cases hd <;> first | rfl | cases hown
        by_cases ht : k.1 = k'.1
        · rw [ht] at hl hp
          rw [hl] at hl'
          obtain ⟨rfl, rfl⟩ := Prod.mk.inj (Option.some.inj hl')
          by_cases hk2 : k.2 = k'.2
          · have hkk : k = k' := Prod.ext ht hk2
            subst hkk
            rw [hu] at hu'
            simp only [Option.some.injEq, V.sl.injEq] at hu'
            obtain ⟨rfl, rfl, rfl⟩ := hu'
            have := List.append_cancel_left hpath
            rw [shiftP_zero] at this
            rw [this]
          · exfalso
            have hfn := hh.nf _ _ _ hl hown
            have := claims_dup (apart_dup hh.ap _ _ hl) hown hk2 hu hu' hfn (L := M) (M := M') (by simp [V.locs]) (by simp [V.locs])
            rw [hmeet] at this
            cases this
        · exfalso
          have := apart_ok hh.ap _ _ _ _ ht hl hl' M (by simp only [hclaim]; exact flatV_locs hu (by simp [V.locs])) M' (flatV_locs hu' (by simp [V.locs]))
          rw [hmeet] at this
          cases this

end
end Go.Proofs.Ytekfjbejfondnaa.Tom
/-! A call's beginning, put together. -/
namespace Go.Proofs.Ytekfjbejfondnaa.Tom
open Go

section
variable {C : Ctx} {S : St} {W : World} {g g1 : Gh} {tm : Nat → Value} {r1 : Roots} {D1 : Key → Option Node} {l : List (Hand × V)} {as : List T} {xs : List Value}

theorem handA_nofn {e : Env} {r : Roots} {b : List (Nat × Nat)} {hd : Hand} {v : V} {x : T × Roots} (h : handA e r b hd v = some x) (ho : hd.own = true) (f : Nat) (c : List V) : v ≠ .fn f c := by
  rintro rfl
  cases hd with
  | lent _ => cases ho
  | cells _ => cases ho
  | row fs => change ((none : Option T).map fun t => (t, r)) = some x at h; cases h
  | rows fs => cases h

theorem handRest_each {e : Env} {r : Roots} {b : List (Nat × Nat)} : ∀ {l : List (Hand × V)} {opts : List (Option T)} {as : List T}, handRest e r b l opts = some as → ∀ (i : Nat) (hd : Hand) (v : V), l[i]? = some (hd, v) → opts[i]? = some none → ∃ x, as[i]? = some x.1 ∧ handA e r b hd v = some x
  | [], _, _, _, i, hd, v, h, _ => by simp at h
  | (h, u) :: l, [], as, hr, i, hd, v, hl, ho => by simp at ho
  | (h, u) :: l, some t :: opts, as, hr, i, hd, v, hl, ho => by
    simp only [handRest] at hr
    obtain ⟨us, h1, rfl⟩ := Option.map_eq_some_iff.1 hr
    cases i with
    | zero => simp at ho
    | succ i =>
      obtain ⟨x, e1, e2⟩ := handRest_each h1 i hd v (by simpa using hl) (by simpa using ho)
      exact ⟨x, by simpa using e1, e2⟩
  | (h, u) :: l, none :: opts, as, hr, i, hd, v, hl, ho => by
    simp only [handRest] at hr
    obtain ⟨x, h0, hr⟩ := Option.bind_eq_some_iff.1 hr
    obtain ⟨us, h1, rfl⟩ := Option.map_eq_some_iff.1 hr
    cases i with
    | zero => obtain ⟨rfl, rfl⟩ := Prod.mk.inj (Option.some.inj hl); exact ⟨x, rfl, h0⟩
    | succ i =>
      obtain ⟨x, e1, e2⟩ := handRest_each h1 i hd v (by simpa using hl) (by simpa using ho)
      exact ⟨x, by simpa using e1, e2⟩

theorem handed_ok (h : Inv C S W g tm) (ha : apart l = true) (hb : nodupB (ptrsOf l) = true) (hv : VsOk g (nR S.r) S.b (l.map (·.2)) xs) {opts : List (Option T)} (hp : handPtrs S.e S.r S.b l = some (opts, r1)) (hr : handRest S.e r1 S.b l opts = some as) :
    ∃ g1 D1, FInv C (atF (foD r1 D1)) S.b W g1 ∧ g1.bx = g.bx ∧ (∀ L, L.z = 0 → g1.hd L = g.hd L) ∧ Less S.r r1 ∧ Handed S W g g1 r1 D1 l as xs := by
  have hf := h.f
  rw [show nR S.r = atF (foD S.r (fun _ => none)) from by rw [← foR_eq]] at hf
  obtain ⟨g1, D1, i1, i2, i3, _, i5, _, i7, i8⟩ := handPtrs_ok h l 0 S.r r1 (fun _ => none) g opts xs hf rfl (fun _ _ => rfl) (Less.refl _) (fun _ _ => rfl) hv hp
  have hv1 : VsOk g1 (atF (foD r1 D1)) S.b (l.map (·.2)) xs := hv.same (fun L n' hn => by
    obtain ⟨m1, e1, e2⟩ := i5 L n' hn
    exact ⟨m1, e1, e2.es, i3 _ rfl⟩) (fun d m hd => ⟨m, hd, by rw [i2]⟩)
  obtain ⟨j1, j2⟩ := handRest_ok l opts as xs hv1 i7 hr (fun i hd v hi => by
    by_cases hc : ∃ fs, hd = .cells fs
    · exact .inl hc
    · exact .inr ((i8 i hd v hi).2 (fun fs e => hc ⟨fs, e⟩)))
  refine ⟨g1, D1, i1, i2, i3, i5, ⟨j1, fun t hd v hl hnc => (j2 t hd v hl).2 hnc, fun t fs v hl => ?_, ha, hb, fun t hd v hl ho f c => ?_, ?_, fun t hd v hl ho => ?_⟩⟩
  · obtain ⟨d, c, m, cs, ys, e1, e2, e3, e4, e5, e6, e7, e8, e9⟩ := (i8 t _ v hl).1 fs rfl
    rw [Nat.zero_add] at e8
    refine ⟨d, c, m, cs, ys, e1, e2, e3, ?_, e5, e6, e7, e8, e9⟩
    refine (j2 t _ v hl).1 _ ?_
    cases ho : opts[t]? with
    | none => rw [ho] at e4; cases e4
    | some o => rw [ho] at e4; simp at e4; rw [e4]
  · obtain ⟨x, _, hx⟩ := handRest_each hr t hd v hl ((i8 t hd v hl).2 (fun fs e => by subst e; cases ho))
    exact handA_nofn hx ho f c
  · have := hv.length
    rw [List.length_map] at this
    omega
  · obtain ⟨⟨a, r'⟩, h1, h2⟩ := handRest_each hr t hd v hl ((i8 t hd v hl).2 (fun fs e => by subst e; cases ho))
    exact ⟨a, r', h1, h2⟩

theorem Handed.box (hh : Handed S W g g1 r1 D1 l as xs) {t m : Nat} (ht : getB (ptrB 0 l) t = some m) : ∃ fs d c md, l[t]? = some (.cells fs, .bx d c) ∧ m = fs.length ∧ getB S.b d = some md ∧ c + m ≤ md ∧ (entG l xs g1).bx t = ((g1.bx d).1, (g1.bx d).2 + c) := by
  obtain ⟨_, fs, v, h1, rfl⟩ := ptrB_get ht
  rw [Nat.sub_zero] at h1
  obtain ⟨d, c, md, cs, ys, rfl, e2, e3, _⟩ := hh.B t fs v h1
  exact ⟨fs, d, c, md, h1, rfl, e2, e3, by simp [entG, h1]⟩

theorem Handed.B' (hh : Handed S W g g1 r1 D1 l as xs) (t m : Nat) (ht : getB (ptrB 0 l) t = some m) : ∃ d c md, getB S.b d = some md ∧ c + m ≤ md ∧ (entG l xs g1).bx t = ((g1.bx d).1, (g1.bx d).2 + c) := by
  obtain ⟨_, d, c, md, _, _, h3, h4, h5⟩ := hh.box ht
  exact ⟨d, c, md, h3, h4, h5⟩

/-- The called function's memory. -/
theorem Handed.enter (hh : Handed S W g g1 r1 D1 l as xs) (hf : FInv C (atF (foD r1 D1)) S.b W g1) :
    FInv (enterC C.N0 W (atF (foD [] (entD l as D1))) (ptrB 0 l) (entG l xs g1)) (atF (foD [] (entD l as D1))) (ptrB 0 l) W (entG l xs g1) := by
  refine hf.enter (entφ l) (entσ l) (hh.H hf) (fun L L' n n' hn hn' hc hc' ho he => hh.inj L L' n n' hn hn' hc hc' ho he) hh.B' (fun t t' m m' ht ht' hne => ?_)
  obtain ⟨fs, d, c, md, h1, _, h3, _, h5⟩ := hh.box ht
  obtain ⟨fs', d', c', md', h1', _, h3', _, h5'⟩ := hh.box ht'
  rw [h5, h5']
  exact hf.x3 d d' md md' h3 h3' (ptrs_nodup hh.nd t t' fs fs' d d' c c' hne h1 h1')

theorem Handed.args (hh : Handed S W g g1 r1 D1 l as xs) (hbx : g1.bx = g.bx) : ArgsOk (entG l xs g1) (entD l as D1) (ptrB 0 l) W 0 as xs := by
  have hxl : ∀ t a, as[t]? = some a → ∃ x, xs[t]? = some x ∧ AOk (entG l xs g1) (entD l as D1) (ptrB 0 l) W t a x := by
    intro t a ha
    have htl : t < l.length := by rw [← hh.len]; exact (List.getElem?_eq_some_iff.1 ha).1
    obtain ⟨⟨hd, v⟩, hl⟩ : ∃ z, l[t]? = some z := ⟨_, List.getElem?_eq_getElem htl⟩
    by_cases hc : ∃ fs, hd = .cells fs
    · obtain ⟨fs, rfl⟩ := hc
      obtain ⟨d, c, md, cs, ys, rfl, e2, e3, e4, e5, e6, e7, e8, e9⟩ := hh.B t fs _ hl
      rw [ha] at e4
      obtain rfl := Option.some.inj e4
      have hp : isP l t = true := by simp [isP, hl]
      refine ⟨_, e7, ys, _, _, rfl, by simp [entG, hl, hbx], ?_, e9, e8.congr (fun L hz hk => entG_ptr (by rw [hk]; exact hp)) (fun k => by simp [entD, hp])⟩
      have := ptrB_some (t0 := 0) hl
      rw [Nat.zero_add] at this
      rw [this, e5]
    · have hnc : ∀ fs, hd ≠ .cells fs := fun fs e => hc ⟨fs, e⟩
      obtain ⟨a', x, ha', hx, hok⟩ := hh.A t hd v hl hnc
      rw [ha] at ha'
      obtain rfl := Option.some.inj ha'
      have hp : isP l t = false := by
        unfold isP
        rw [hl]
        cases hd <;> first | rfl | exact (hnc _ rfl).elim
      refine ⟨x, hx, hok.make _ _ _ _ _ fun k w y hw hy => ⟨?_, by simp [entD, hp, ha, hw]⟩⟩
      have hlt := hok.cells.lt
      have hkw := (List.getElem?_eq_some_iff.1 hw).1
      have hu : (flatV v)[k]? = some (flatV v)[k] := List.getElem?_eq_getElem (by omega)
      obtain ⟨hv, hca⟩ := hok.cells.ok _ _ _ _ hu hw hy
      have hhd : (entG l xs g1).hd ⟨1, (t, k), []⟩ = hdOf y := by rw [entG_hd (L := ⟨1, (t, k), []⟩) hp rfl]; simp [srcX, hl, hx, hy]
      generalize (flatV v)[k] = u at hv hca
      cases u with
      | val z => simp only [CellArg] at hca; subst hca; exact hv
      | nil =>
        simp only [VOk] at hv
        subst hv
        rcases hca with rfl | ⟨ro, es, rfl, _⟩
        · rfl
        · simp only [CellOk, hhd, hdOf]; rfl
      | un => simp only [CellArg] at hca; subst hca; trivial
      | sl M off len =>
        obtain ⟨m, hm, hca⟩ := hca
        obtain ⟨ad, c, rfl, _⟩ := hv
        split at hca
        · obtain ⟨_, _, rfl, rfl⟩ := hca
          simp only [CellOk, hhd, hdOf]
        · obtain ⟨h1, rfl⟩ := hca
          simp only [CellOk, hhd, hdOf, length_cut _ _ _ h1]
      | _ => exact hca.elim
  have key : ∀ (t0 : Nat) (bs : List T) (ys : List Value), (∀ t a, bs[t]? = some a → ∃ x, ys[t]? = some x ∧ AOk (entG l xs g1) (entD l as D1) (ptrB 0 l) W (t0 + t) a x) → ys.length = bs.length → ArgsOk (entG l xs g1) (entD l as D1) (ptrB 0 l) W t0 bs ys := by
    intro t0 bs
    induction bs generalizing t0 with
    | nil => intro ys _ hl; simpa [ArgsOk] using hl
    | cons a bs ih =>
      intro ys H hl
      cases ys with
      | nil => simp at hl
      | cons y ys =>
        obtain ⟨x, e1, e2⟩ := H 0 a rfl
        obtain rfl := Option.some.inj e1
        refine ⟨y, ys, rfl, e2, ih (t0 + 1) ys (fun t a ha => ?_) (by simpa using hl)⟩
        have := H (t + 1) a (by simpa using ha)
        rw [show t0 + (t + 1) = t0 + 1 + t by omega] at this
        simpa using this
  have hlen : xs.length = as.length := by
    refine Nat.le_antisymm ?_ ?_
    · exact Nat.le_of_not_lt hh.xlen
    · cases hlast : as.length with
      | zero => exact Nat.zero_le _
      | succ n =>
        obtain ⟨x, hx, _⟩ := hxl n as[n] (List.getElem?_eq_getElem (by omega))
        have := (List.getElem?_eq_some_iff.1 hx).1
        omega
  exact key 0 as xs (fun t a ha => by rw [Nat.zero_add]; exact hxl t a ha) hlen

/-- The caller's nodes that were not handed: their blocks are not. -/
theorem Handed.kept (hh : Handed S W g g1 r1 D1 l as xs) (hf : FInv C (atF (foD r1 D1)) S.b W g1) {M : Loc} {n : Node} (hn : nodeAt r1 M = some n)
    (hM : ∀ (t : Nat) (hd : Hand) (v : V), l[t]? = some (hd, v) → hd.own = true → ∀ L ∈ v.locs, ¬ (M.key = L.key ∧ L.path <+: M.path)) (q : Nat) (hq : (g1.hd M.g).blk = some q) : ¬ (enterC C.N0 W (atF (foD [] (entD l as D1))) (ptrB 0 l) (entG l xs g1)).ob q := by
  have hnF : atF (foD r1 D1) M.g = some n := hn
  rintro (⟨L, n', hn', ho, hb⟩ | ⟨t, m, ht, rfl⟩)
  · have hc := blk_cap hb
    rcases hh.H hf L n' hn' with ⟨_, h2, _⟩ | ⟨n2, h1, h2, h3, _⟩
    · exact hc h2
    · have hb2 := h2.blk hb
      refine hf.x1 _ _ n2 n h1 hnF (h3 ho) ?_ q hb2 hq
      intro e
      obtain ⟨hz, hcase⟩ := hh.ownPart hn' ho hc
      rcases hcase with ⟨_, h4⟩ | ⟨hd, v, M', len, _, hl, hown, hu, h4⟩
      · rw [h4] at e
        have := congrArg GLoc.z e
        simp only [Loc.g] at this
        omega
      · rw [h4] at e
        simp only [Loc.g, GLoc.mk.injEq, true_and] at e
        exact hM _ hd v hl hown M' (flatV_locs hu (by simp [V.locs])) ⟨e.1.symm, ⟨L.p, e.2⟩⟩
  · obtain ⟨fs, d, c, md, h1, _, h3, _, h5⟩ := hh.box ht
    rw [h5] at hq
    exact hf.x2 _ n d md hnF h3 hq

/-- The variables that were not handed. -/
theorem Handed.keptBox (hh : Handed S W g g1 r1 D1 l as xs) (hf : FInv C (atF (foD r1 D1)) S.b W g1) {d m : Nat} (hd : getB S.b d = some m) (hno : ∀ (t : Nat) (fs : Fat) (c : Nat), l[t]? ≠ some (Hand.cells fs, V.bx d c)) :
    ¬ (enterC C.N0 W (atF (foD [] (entD l as D1))) (ptrB 0 l) (entG l xs g1)).ob (g1.bx d).1 := by
  rintro (⟨L, n', hn', ho, hb⟩ | ⟨t, m', ht, he⟩)
  · rcases hh.H hf L n' hn' with ⟨_, h2, _⟩ | ⟨n2, h1, h2, h3, _⟩
    · exact blk_cap hb h2
    · exact hf.x2 _ n2 d m h1 hd (h2.blk hb)
  · obtain ⟨fs, d', c, md, h1, _, h3, _, h5⟩ := hh.box ht
    rw [h5] at he
    have : d' = d := Classical.byContradiction fun hx => hf.x3 d' d md m h3 hd hx he
    subst this
    exact hno t fs c h1

/-- The cells of a variable that were handed. -/
theorem Handed.boxOwn (hh : Handed S W g g1 r1 D1 l as xs) (hf : FInv C (atF (foD r1 D1)) S.b W g1) {t : Nat} {fs : Fat} {d c : Nat} (hl : l[t]? = some (.cells fs, .bx d c)) (i : Nat)
    (ho : (enterC C.N0 W (atF (foD [] (entD l as D1))) (ptrB 0 l) (entG l xs g1)).own (g1.bx d).1 i) : ∃ k, k < fs.length ∧ i = (g1.bx d).2 + c + k := by
  obtain ⟨d1, c1, md, cs, ys, e1, e2, e3, _⟩ := hh.B t fs _ hl
  simp only [V.bx.injEq] at e1
  obtain ⟨rfl, rfl⟩ := e1
  rcases ho with ⟨L, n', o, k, hn', ho, hc, ha, _⟩ | ⟨t', m', k, ht', he, hk, rfl⟩
  · exfalso
    rcases hh.H hf L n' hn' with ⟨_, h2, _⟩ | ⟨n2, h1, h2, h3, _⟩
    · exact hc h2
    · exact hf.x2 _ n2 d md h1 e2 (h2.blk (blk_of ha hc))
  · obtain ⟨fs', d', c', md', h1, rfl, h3, _, h5⟩ := hh.box ht'
    rw [h5] at he
    have : d' = d := Classical.byContradiction fun hx => hf.x3 d' d md' md h3 e2 hx he
    subst this
    have ht : t' = t := Classical.byContradiction fun hx => ptrs_nodup hh.nd t' t fs' fs d' d' c' c hx h1 hl rfl
    subst ht
    rw [hl] at h1
    simp only [Option.some.injEq, Prod.mk.injEq, Hand.cells.injEq, V.bx.injEq] at h1
    obtain ⟨rfl, _, rfl⟩ := h1
    exact ⟨k, hk, by rw [h5]⟩

end
end Go.Proofs.Ytekfjbejfondnaa.Tom
/-! A call's end: the caller's roots behind it, as lists. -/
namespace Go.Proofs.Ytekfjbejfondnaa.Tom
open Go

/-- Is M at or under L? -/
def Under (L M : Loc) : Prop := M.key = L.key ∧ L.path <+: M.path

theorem Under.meets {L L' M : Loc} (h : Under L M) (h' : Under L' M) : L.meets L' = true := by
  obtain ⟨h1, p, h2⟩ := h
  obtain ⟨h3, q, h4⟩ := h'
  refine meets_of_append (p := p) (q := q) (s := 0) (h1.symm.trans h3) ?_
  rw [shiftP_zero, h2, h4]

theorem Under.self (L : Loc) : Under L L := ⟨rfl, List.prefix_refl _⟩

/-- An entry: a place of the caller's, and whose detached tree stands there behind the call. -/
abbrev Entr := Loc × Key

/-- The roots behind: like nodes where nothing was given, the given trees elsewhere. -/
def Rel (D : Key → Option Node) (r r' : Roots) (E : List Entr) : Prop := ∀ M n', nodeAt r' M = some n' →
  (∃ n, nodeAt r M = some n ∧ Like n' n ∧ ∀ s ∈ E, ¬ Under s.1 M) ∨
  (∃ s ∈ E, ∃ p n m, M = ⟨s.1.key, s.1.path ++ p⟩ ∧ D s.2 = some m ∧ walk m p = some n ∧ Like n' n)

theorem Rel.refl (D : Key → Option Node) (r : Roots) : Rel D r r [] := fun M n h => .inl ⟨n, h, Like.refl n, by simp⟩

theorem Rel.comp {D : Key → Option Node} {r r1 r2 : Roots} {E1 E2 : List Entr} (h1 : Rel D r r1 E1) (h2 : Rel D r1 r2 E2) : Rel D r r2 (E1 ++ E2) := by
  intro M n' hn
  rcases h2 M n' hn with ⟨n, e1, e2, e3⟩ | ⟨s, hs, p, n, m, e1, e2, e3, e4⟩
  · rcases h1 M n e1 with ⟨n0, f1, f2, f3⟩ | ⟨s, hs, p, n0, m, f1, f2, f3, f4⟩
    · refine .inl ⟨n0, f1, e2.trans f2, fun s hs => ?_⟩
      rcases List.mem_append.1 hs with hs | hs
      · exact f3 s hs
      · exact e3 s hs
    · exact .inr ⟨s, List.mem_append_left _ hs, p, n0, m, f1, f2, f3, e2.trans f4⟩
  · exact .inr ⟨s, List.mem_append_right _ hs, p, n, m, e1, e2, e3, e4⟩

/-- What a step of giving back does. -/
structure Gave (D : Key → Option Node) (d : Nat) (r r' : Roots) (src E : List Entr) (p : List Loc) : Prop where
  rel : Rel D r r' E
  mono : ∀ k, (getR r k).isSome = true → (getR r' k).isSome = true
  here : ∀ s ∈ E, (getR r' s.1.key).isSome = true
  ent : ∀ s ∈ E, s ∈ src ∨ (s.1.path = [] ∧ s.1.key.1 = d ∧ getR r s.1.key = none)
  srcE : ∀ s ∈ E, s ∈ src → ∃ n m, nodeAt r s.1 = some n ∧ D s.2 = some m ∧ m.es = n.es ∧ m.ro = .own ∧ m.el.length = n.el.length
  apart : E.Pairwise fun s s' => s.1.meets s'.1 = false
  -- what is not poisoned stands where it stood: at the place itself
  pois : ∀ s ∈ E, ∀ q m n, D s.2 = some m → walk m q = some n → (∀ row ∈ m.el, row.length = m.es) → hit p ⟨s.1.key, s.1.path ++ q⟩ = false → q = [] ∧ s ∈ src

theorem hit_append (p q : List Loc) (M : Loc) : hit (p ++ q) M = (hit p M || hit q M) := by
  induction p with
  | nil => simp [hit]
  | cons x p ih => simp only [List.cons_append, hit, ih, Bool.or_assoc]

theorem Gave.refl (D : Key → Option Node) (d : Nat) (r : Roots) : Gave D d r r [] [] [] :=
  ⟨Rel.refl D r, fun _ h => h, by simp, by simp, by simp, List.Pairwise.nil, by simp⟩

theorem Gave.comp {D : Key → Option Node} {d : Nat} {r r1 r2 : Roots} {src1 src2 E1 E2 : List Entr} {p1 p2 : List Loc} (h1 : Gave D d r r1 src1 E1 p1) (h2 : Gave D d r1 r2 src2 E2 p2)
    (hs1 : ∀ s ∈ src1, (getR r s.1.key).isSome = true) (hs : ∀ s ∈ src2, (getR r s.1.key).isSome = true) (hap : ∀ s ∈ src1, ∀ s' ∈ src2, s.1.meets s'.1 = false) : Gave D d r r2 (src1 ++ src2) (E1 ++ E2) (p1 ++ p2) := by
  have hcross : ∀ s ∈ E1, ∀ s' ∈ E2, s.1.meets s'.1 = false := by
    intro s hs1 s' hs2
    rcases h2.ent s' hs2 with h3 | ⟨_, _, h3⟩
    · rcases h1.ent s hs1 with h4 | ⟨_, _, h4⟩
      · exact hap s h4 s' h3
      · have := hs s' h3
        have hk : s.1.key ≠ s'.1.key := fun e => by rw [← e, h4] at this; cases this
        simp [Loc.meets, hk]
    · have := h1.here s hs1
      have hk : s.1.key ≠ s'.1.key := fun e => by rw [e, h3] at this; cases this
      simp [Loc.meets, hk]
  have hsrc2 := hs
  refine ⟨h1.rel.comp h2.rel, fun k hk => h2.mono k (h1.mono k hk), fun s hs => ?_, fun s hs => ?_, fun s hs hsrc => ?_, List.pairwise_append.2 ⟨h1.apart, h2.apart, hcross⟩, fun s hs q m n hD hw hrow hh => ?_⟩
  · rcases List.mem_append.1 hs with hs | hs
    · exact h2.mono _ (h1.here s hs)
    · exact h2.here s hs
  · rcases List.mem_append.1 hs with hs | hs
    · exact (h1.ent s hs).imp (List.mem_append_left _) id
    · refine (h2.ent s hs).imp (List.mem_append_right _) fun ⟨a, b, c⟩ => ⟨a, b, ?_⟩
      cases e : getR r s.1.key with
      | none => rfl
      | some n => have := h1.mono s.1.key (by rw [e]; rfl); rw [c] at this; cases this
  · rcases List.mem_append.1 hs with hs | hs
    · rcases h1.ent s hs with h3 | ⟨_, _, h3⟩
      · exact h1.srcE s hs h3
      · rcases List.mem_append.1 hsrc with h4 | h4
        · exact h1.srcE s hs h4
        · have h5 := hsrc2 s h4
          rw [h3] at h5; cases h5
    · have h4 : s ∈ src2 := by
        rcases h2.ent s hs with h3 | ⟨_, _, h3⟩
        · exact h3
        · rcases List.mem_append.1 hsrc with h4 | h4
          · exfalso
            have := h1.mono s.1.key (hs1 s h4)
            rw [h3] at this; cases this
          · exact h4
      obtain ⟨n, m, f1, f2, f3, f4, f5⟩ := h2.srcE s hs h4
      rcases h1.rel s.1 n f1 with ⟨n0, g1, g2, g3⟩ | ⟨s', hs', q, n0, m0, g1, g2, g3, g4⟩
      · exact ⟨n0, m, g1, f2, f3.trans g2.es, f4, f5.trans g2.shape.1⟩
      · exfalso
        have := hcross s' hs' s hs
        have hm := (Under.self s.1).meets (L := s.1) (L' := s'.1) ⟨by rw [g1], by rw [g1]; exact ⟨q, rfl⟩⟩
        rw [meets_comm, this] at hm
        cases hm
  · rw [hit_append, Bool.or_eq_false_iff] at hh
    rcases List.mem_append.1 hs with hs | hs
    · obtain ⟨a, b⟩ := h1.pois s hs q m n hD hw hrow hh.1
      exact ⟨a, List.mem_append_left _ b⟩
    · obtain ⟨a, b⟩ := h2.pois s hs q m n hD hw hrow hh.2
      exact ⟨a, List.mem_append_right _ b⟩

end Go.Proofs.Ytekfjbejfondnaa.Tom
/-! A call's end: what is given back, step by step. -/
namespace Go.Proofs.Ytekfjbejfondnaa.Tom
open Go

def entRow (i k : Nat) : V → List Entr
  | .sl L _ _ => [(L, (i, k))]
  | _ => []
def entRows (i : Nat) : Nat → List V → List Entr
  | _, [] => []
  | k, v :: l => entRow i k v ++ entRows i (k + 1) l
def srcsOf : Nat → List (Hand × V) → List Entr
  | _, [] => []
  | i, (.lent _, _) :: l => srcsOf i l
  | i, (.row _, v) :: l => entRow i 0 v ++ srcsOf (i + 1) l
  | i, (.rows _, .agg vs) :: l => entRows i 0 vs ++ srcsOf (i + 1) l
  | i, (.rows _, _) :: l => srcsOf (i + 1) l
  | i, (.cells _, _) :: l => srcsOf (i + 1) l

/-- The entries of what is given back. -/
def entsOf (d : Nat) : Nat → Nat → List (Hand × V) → List T → List Entr
  | _, _, [], _ => []
  | i, k, (.lent _, _) :: l, ts => entsOf d i k l ts
  | i, k, (.row _, v) :: l, _ :: ts => entRow i 0 v ++ entsOf d (i + 1) k l ts
  | i, k, (.rows _, .agg vs) :: l, _ :: ts => entRows i 0 vs ++ entsOf d (i + 1) k l ts
  | i, k, (.cells fs, _) :: l, .ptr cs :: ts => ((impCs d k cs).2.map fun p => ((⟨p.1, []⟩ : Loc), ((i, p.1.2 - k) : Key))) ++ entsOf d (i + 1) (k + fs.length) l ts
  | _, _, _, _ => []

/-- Where the given trees stand detached. -/
def RowD (D : Key → Option Node) (i k : Nat) (v : V) (t : T) : Prop := ∀ L o n es el, v = .sl L o n → t = .arr .own es el → D (i, k) = some ⟨.own, es, el⟩
def RowsD (D : Key → Option Node) (i : Nat) : Nat → List V → List T → Prop
  | k, v :: l, t :: ts => RowD D i k v t ∧ RowsD D i (k + 1) l ts
  | _, _, _ => True
def DOk (D : Key → Option Node) : Nat → List (Hand × V) → List T → Prop
  | i, (.lent _, _) :: l, ts => DOk D i l ts
  | i, (.row _, v) :: l, t :: ts => RowD D i 0 v t ∧ DOk D (i + 1) l ts
  | i, (.rows _, .agg vs) :: l, .agg us :: ts => RowsD D i 0 vs us ∧ DOk D (i + 1) l ts
  | i, (.cells _, _) :: l, .ptr cs :: ts => (∀ (j : Nat) (t : T), cs[j]? = some t → D (i, j) = t.node .own) ∧ DOk D (i + 1) l ts
  | _, _, _ => True

section
variable {D : Key → Option Node} {d : Nat}

theorem backRow_gave {r r' : Roots} {v : V} {t : T} {p : List Loc} {i k : Nat} (h : backRow r v t = some (r', p)) (hD : RowD D i k v t) : Gave D d r r' (entRow i k v) (entRow i k v) p := by
  by_cases hv : ∃ L o n, v = .sl L o n
  · obtain ⟨L, o, len, rfl⟩ := hv
    by_cases ht : ∃ es el, t = .arr .own es el
    · obtain ⟨es, el, rfl⟩ := ht
      have hDk := hD L o len es el rfl rfl
      simp only [backRow] at h
      obtain ⟨n, hn, h⟩ := Option.bind_eq_some_iff.1 h
      split at h
      · rename_i hc
        obtain ⟨hc1, hc2⟩ := hc
        obtain ⟨r1, hr, h⟩ := Option.map_eq_some_iff.1 h
        obtain ⟨rfl, rfl⟩ := Prod.mk.inj h
        obtain ⟨m, e', h1, h2, h3, h4, h5⟩ := modAt_some (newEl_len el) hr
        obtain rfl := Option.some.inj (hn.symm.trans h1)
        have he : e' = el ∧ el.length = n.el.length := by
          unfold newEl at h2
          split at h2
          · rename_i hl; exact ⟨(Option.some.inj h2).symm, hl⟩
          · cases h2
        obtain ⟨rfl, hel⟩ := he
        have hnode : (⟨n.ro, n.es, e'⟩ : Node) = ⟨.own, es, e'⟩ := by rw [hc1, hc2]
        have hkey : (getR r L.key).isSome = true := by
          unfold nodeAt at hn
          cases e : getR r L.key with
          | none => rw [e] at hn; cases hn
          | some _ => rfl
        refine ⟨fun M n' hn' => ?_, fun k0 hk => by rw [h5]; exact hk, fun s hs => ?_, fun s hs => .inl hs, fun s hs _ => ?_, by simp [entRow], fun s hs q m n2 hDs hw hrow hh => ?_⟩
        · by_cases hu : Under L M
          · obtain ⟨q1, q, q2⟩ := hu
            obtain ⟨mk, mp⟩ := M
            simp only at q1 q2
            subst q1 q2
            rw [h3 q, hnode] at hn'
            exact .inr ⟨(L, (i, k)), by simp [entRow], q, n', _, rfl, hDk, hn', Like.refl _⟩
          · obtain ⟨n0, f1, f2⟩ := h4 M n' (fun a b => hu ⟨a, b⟩) hn'
            exact .inl ⟨n0, f1, f2, fun s hs => by simp only [entRow, List.mem_singleton] at hs; subst hs; exact hu⟩
        · simp only [entRow, List.mem_singleton] at hs
          subst hs
          rw [h5]
          exact hkey
        · simp only [entRow, List.mem_singleton] at hs
          subst hs
          exact ⟨n, _, hn, hDk, hc2.symm, rfl, hel⟩
        · simp only [entRow, List.mem_singleton] at hs
          subst hs
          simp only at hDs hh
          rw [hDk] at hDs
          obtain rfl := Option.some.inj hDs
          refine ⟨?_, by simp [entRow]⟩
          cases q with
          | nil => rfl
          | cons x q =>
            exfalso
            obtain ⟨a, j⟩ := x
            rw [walk_cons] at hw
            obtain ⟨t, ht, hw⟩ := Option.bind_eq_some_iff.1 hw
            obtain ⟨m', hm', _⟩ := Option.bind_eq_some_iff.1 hw
            split at hh
            · rename_i hpl
              rw [plain_node (plain_cell hpl ht)] at hm'
              cases hm'
            · have hj := (cellAt_row hrow ht).2
              have := hit_mem (p := (List.range es).map fun j => L.ext 0 j) (L := L.ext 0 j) (M := ⟨L.key, L.path ++ (a, j) :: q⟩) (List.mem_map.2 ⟨j, List.mem_range.2 hj, rfl⟩) rfl (pfx_col L.path 0 a j q)
              rw [this] at hh
              cases hh
      · cases h
    · exfalso
      cases t with
      | arr ro es el => cases ro <;> first | exact ht ⟨_, _, rfl⟩ | cases h
      | _ => cases h
  · have e : backRow r v t = some (r, []) := by cases v <;> first | rfl | exact (hv ⟨_, _, _, rfl⟩).elim
    rw [e] at h
    obtain ⟨rfl, rfl⟩ := Prod.mk.inj (Option.some.inj h)
    have e2 : entRow i k v = [] := by cases v <;> first | rfl | exact (hv ⟨_, _, _, rfl⟩).elim
    rw [e2]
    exact Gave.refl D d r
where
  pfx_col : ∀ (p : Path) (i a j : Nat) (q : Path), pfx (p ++ [(i, j)]) (p ++ (a, j) :: q) = true
  | [], i, a, j, q => by cases q <;> simp [pfx]
  | (x, y) :: p, i, a, j, q => by simp [pfx, pfx_col p i a j q]

theorem backRows_gave : ∀ {vs : List V} {ts : List T} {r r' : Roots} {p : List Loc} {i k : Nat}, backRows r vs ts = some (r', p) → RowsD D i k vs ts → (∀ s ∈ entRows i k vs, (getR r s.1.key).isSome = true) → ((entRows i k vs).Pairwise fun s s' => s.1.meets s'.1 = false) →
    Gave D d r r' (entRows i k vs) (entRows i k vs) p
  | [], [], r, r', p, i, k, h, _, _, _ => by
    obtain ⟨rfl, rfl⟩ := Prod.mk.inj (Option.some.inj h)
    exact Gave.refl D d r
  | [], _ :: _, _, _, _, _, _, h, _, _, _ => by cases h
  | _ :: _, [], _, _, _, _, _, h, _, _, _ => by cases h
  | v :: vs, t :: ts, r, r', p, i, k, h, hD, hk, hp => by
    simp only [backRows] at h
    obtain ⟨⟨r1, p1⟩, h1, h⟩ := Option.bind_eq_some_iff.1 h
    obtain ⟨⟨r2, p2⟩, h2, e⟩ := Option.map_eq_some_iff.1 h
    obtain ⟨rfl, rfl⟩ := Prod.mk.inj e
    have g1 := backRow_gave (d := d) h1 hD.1
    simp only [entRows] at hk hp ⊢
    obtain ⟨hp1, hp2, hp3⟩ := List.pairwise_append.1 hp
    have g2 := backRows_gave h2 hD.2 (fun s hs => g1.mono _ (hk s (List.mem_append_right _ hs))) hp2
    exact g1.comp g2 (fun s hs => hk s (List.mem_append_left _ hs)) (fun s hs => hk s (List.mem_append_right _ hs)) hp3

theorem newRoots_app : ∀ {lst r r' : Roots}, newRoots r lst = some r' → r' = lst ++ r ∧ (∀ p ∈ lst, getR r p.1 = none) ∧ lst.Pairwise fun p p' => p.1 ≠ p'.1
  | [], r, r', h => by obtain rfl := Option.some.inj h; exact ⟨rfl, by simp, .nil⟩
  | (k, n) :: lst, r, r', h => by
    simp only [newRoots] at h
    obtain ⟨r1, h1, h2⟩ := Option.bind_eq_some_iff.1 h
    obtain ⟨rfl, i2, i3⟩ := newRoots_app h1
    unfold newRoot at h2
    split at h2
    · rename_i hn
      obtain rfl := Option.some.inj h2
      have hn' : getR (lst ++ r) k = none := by simpa using hn
      have hap : ∀ (lst : Roots), getR (lst ++ r) k = none → getR r k = none ∧ ∀ p ∈ lst, p.1 ≠ k := by
        intro lst
        induction lst with
        | nil => intro h; exact ⟨h, by simp⟩
        | cons x lst ih =>
          intro h
          obtain ⟨a, m⟩ := x
          simp only [List.cons_append, getR] at h
          split at h
          · cases h
          · rename_i hne
            obtain ⟨j1, j2⟩ := ih h
            exact ⟨j1, fun p hp => (List.mem_cons.1 hp).elim (fun e => by subst e; exact hne) (j2 p)⟩
      obtain ⟨j1, j2⟩ := hap lst hn'
      exact ⟨rfl, fun p hp => (List.mem_cons.1 hp).elim (fun e => by subst e; exact j1) (i2 p), List.pairwise_cons.2 ⟨fun p hp e => j2 p hp e.symm, i3⟩⟩
    · cases h2

theorem getR_app {lst r : Roots} {k : Key} : getR (lst ++ r) k = (getR lst k).or (getR r k) := by
  induction lst with
  | nil => simp [getR]
  | cons x lst ih =>
    obtain ⟨a, n⟩ := x
    simp only [List.cons_append, getR]
    split
    · rfl
    · exact ih

/-- New roots. -/
theorem newRoots_gave {lst r r' : Roots} (h : newRoots r lst = some r') (κ : Key → Key) (hd : ∀ p ∈ lst, p.1.1 = d) (hD : ∀ p ∈ lst, D (κ p.1) = some p.2) : Gave D d r r' [] (lst.map fun p => ((⟨p.1, []⟩ : Loc), κ p.1)) (keysOf lst) := by
  obtain ⟨rfl, h1, h2⟩ := newRoots_app h
  have hin : ∀ p ∈ lst, (getR lst p.1).isSome = true := by
    intro p hp
    clear h h1 h2 hd hD
    induction lst with
    | nil => cases hp
    | cons x lst ih =>
      obtain ⟨a, m⟩ := x
      simp only [getR]
      split
      · rfl
      · rename_i hne
        rcases List.mem_cons.1 hp with rfl | hp
        · exact (hne rfl).elim
        · exact ih hp
  refine ⟨fun M n' hn => ?_, fun k hk => ?_, fun s hs => ?_, fun s hs => ?_, fun s hs he => (by cases he), ?_, fun s hs q m n hDs hw hrow hh => ?_⟩
  · unfold nodeAt at hn
    obtain ⟨n0, e1, e2⟩ := Option.bind_eq_some_iff.1 hn
    rw [getR_app] at e1
    cases e3 : getR lst M.key with
    | some n1 =>
      rw [e3] at e1
      obtain rfl := Option.some.inj e1
      have hm := getR_mem e3
      exact .inr ⟨_, List.mem_map.2 ⟨_, hm, rfl⟩, M.path, n', n1, rfl, hD _ hm, e2, Like.refl _⟩
    | none =>
      rw [e3] at e1
      refine .inl ⟨n', by unfold nodeAt; rw [show getR r M.key = some n0 from e1]; exact e2, Like.refl _, fun s hs hu => ?_⟩
      obtain ⟨p, hp, rfl⟩ := List.mem_map.1 hs
      have := h1 p hp
      rw [show p.1 = M.key from hu.1.symm, show getR r M.key = some n0 from e1] at this
      cases this
  · rw [getR_app]
    cases getR lst k <;> simp_all
  · obtain ⟨p, hp, rfl⟩ := List.mem_map.1 hs
    rw [getR_app]
    have := hin p hp
    simp only
    cases e : getR lst p.1 with
    | none => rw [e] at this; cases this
    | some _ => rfl
  · obtain ⟨p, hp, rfl⟩ := List.mem_map.1 hs
    exact .inr ⟨rfl, hd p hp, h1 p hp⟩
  · refine List.pairwise_map.2 (h2.imp fun hne => ?_)
    simp [Loc.meets, hne]
  · exfalso
    obtain ⟨p, hp, rfl⟩ := List.mem_map.1 hs
    have := hit_mem (p := keysOf lst) (L := ⟨p.1, []⟩) (M := ⟨p.1, q⟩) (List.mem_map.2 ⟨p, hp, rfl⟩) rfl (by cases q <;> rfl)
    simp only [List.nil_append] at hh
    rw [this] at hh
    cases hh

theorem impCs_keys {t : Nat} : ∀ {ts : List T} {k : Nat} {p : Key × Node}, p ∈ (impCs t k ts).2 → p.1.1 = t ∧ k ≤ p.1.2 ∧ ∃ x, ts[p.1.2 - k]? = some x ∧ x.node .own = some p.2
  | [], k, p, h => by simp [impCs] at h
  | x :: ts, k, p, h => by
    simp only [impCs, List.mem_append] at h
    rcases h with h | h
    · cases x <;> first
        | (simp only [impC, List.mem_singleton] at h
           subst h
           rename_i ro es el
           exact ⟨rfl, Nat.le_refl _, .arr ro es el, by simp, rfl⟩)
        | (simp [impC] at h)
    · obtain ⟨e1, e2, y, e3, e4⟩ := impCs_keys h
      refine ⟨e1, by omega, y, ?_, e4⟩
      rw [show p.1.2 - k = (p.1.2 - (k + 1)) + 1 by omega]
      simpa using e3

theorem backs_gave : ∀ {l : List (Hand × V)} {ts : List T} {r r' : Roots} {e : Env} {p : List Loc} {i k : Nat}, backs d k r l ts = some (e, r', p) → DOk D i l ts → (∀ s ∈ srcsOf i l, (getR r s.1.key).isSome = true) → ((srcsOf i l).Pairwise fun s s' => s.1.meets s'.1 = false) →
    Gave D d r r' (srcsOf i l) (entsOf d i k l ts) p
  | [], [], r, r', e, p, i, k, h, _, _, _ => by
    simp only [backs, Option.some.injEq, Prod.mk.injEq] at h
    obtain ⟨_, rfl, rfl⟩ := h
    exact Gave.refl D d r
  | [], _ :: _, _, _, _, _, _, _, h, _, _, _ => by cases h
  | (hd, v) :: l, ts, r, r', e, p, i, k, h, hD, hk, hp => by
    cases hd with
    | lent fs => exact backs_gave (l := l) h hD hk hp
    | row fs =>
      cases ts with
      | nil => cases h
      | cons t ts =>
        simp only [backs] at h
        obtain ⟨⟨r1, p1⟩, h1, h⟩ := Option.bind_eq_some_iff.1 h
        obtain ⟨⟨e2, r2, p2⟩, h2, e3⟩ := Option.map_eq_some_iff.1 h
        simp only [Prod.mk.injEq] at e3
        obtain ⟨rfl, rfl, rfl⟩ := e3
        have g1 := backRow_gave (d := d) h1 hD.1
        simp only [srcsOf] at hk hp
        obtain ⟨hp1, hp2, hp3⟩ := List.pairwise_append.1 hp
        have g2 := backs_gave h2 hD.2 (fun s hs => g1.mono _ (hk s (List.mem_append_right _ hs))) hp2
        exact g1.comp g2 (fun s hs => hk s (List.mem_append_left _ hs)) (fun s hs => hk s (List.mem_append_right _ hs)) hp3
    | rows fs =>
      cases v <;> try (cases ts <;> cases h; done)
      case agg vs =>
        cases ts with
        | nil => cases h
        | cons t ts =>
          cases t <;> try (cases h; done)
          case agg us =>
            simp only [backs] at h
            obtain ⟨⟨r1, p1⟩, h1, h⟩ := Option.bind_eq_some_iff.1 h
            obtain ⟨⟨e2, r2, p2⟩, h2, e3⟩ := Option.map_eq_some_iff.1 h
            simp only [Prod.mk.injEq] at e3
            obtain ⟨rfl, rfl, rfl⟩ := e3
            simp only [srcsOf] at hk hp
            obtain ⟨hp1, hp2, hp3⟩ := List.pairwise_append.1 hp
            have g1 := backRows_gave (d := d) h1 hD.1 (fun s hs => hk s (List.mem_append_left _ hs)) hp1
            have g2 := backs_gave h2 hD.2 (fun s hs => g1.mono _ (hk s (List.mem_append_right _ hs))) hp2
            exact g1.comp g2 (fun s hs => hk s (List.mem_append_left _ hs)) (fun s hs => hk s (List.mem_append_right _ hs)) hp3
    | cells fs =>
      cases v <;> try (cases ts <;> cases h; done)
      case bx b c =>
        cases ts with
        | nil => cases h
        | cons t ts =>
          cases t <;> try (cases h; done)
          case ptr cs =>
            simp only [backs] at h
            split at h
            · obtain ⟨r1, h1, h⟩ := Option.bind_eq_some_iff.1 h
              obtain ⟨⟨e2, r2, p2⟩, h2, e3⟩ := Option.map_eq_some_iff.1 h
              simp only [Prod.mk.injEq] at e3
              obtain ⟨rfl, rfl, rfl⟩ := e3
              have g1 := newRoots_gave (D := D) (d := d) h1 (fun q => (i, q.2 - k)) (fun p hp => (impCs_keys hp).1) (fun p hp => by
                obtain ⟨_, _, x, e4, e5⟩ := impCs_keys hp
                rw [← e5]
                exact hD.1 _ x e4)
              have g2 := backs_gave (l := l) h2 hD.2 (fun s hs => g1.mono _ (hk s hs)) hp
              have := g1.comp g2 (by simp) hk (by simp)
              exact this
            · cases h

end
end Go.Proofs.Ytekfjbejfondnaa.Tom
/-! A call's end: no given tree is given twice. -/
namespace Go.Proofs.Ytekfjbejfondnaa.Tom
open Go

theorem entRow_kd {i k : Nat} {v : V} {s : Entr} (h : s ∈ entRow i k v) : s.2 = (i, k) := by
  cases v <;> first
    | (simp only [entRow, List.mem_singleton] at h; subst h; rfl)
    | (simp [entRow] at h)

theorem entRows_kd {i : Nat} : ∀ {vs : List V} {k : Nat} {s : Entr}, s ∈ entRows i k vs → s.2.1 = i ∧ k ≤ s.2.2
  | [], k, s, h => by simp [entRows] at h
  | v :: vs, k, s, h => by
    simp only [entRows, List.mem_append] at h
    rcases h with h | h
    · rw [entRow_kd h]; exact ⟨rfl, Nat.le_refl _⟩
    · obtain ⟨e1, e2⟩ := entRows_kd h
      exact ⟨e1, by omega⟩

theorem entRow_pw {i k : Nat} {v : V} : (entRow i k v).Pairwise fun s s' => s.2 ≠ s'.2 := by
  cases v <;> simp [entRow]

theorem entRows_pw {i : Nat} : ∀ {vs : List V} {k : Nat}, (entRows i k vs).Pairwise fun s s' => s.2 ≠ s'.2
  | [], k => by simp [entRows]
  | v :: vs, k => by
    simp only [entRows]
    refine List.pairwise_append.2 ⟨entRow_pw, entRows_pw, fun s hs s' hs' e => ?_⟩
    have := entRow_kd hs
    have h2 := (entRows_kd hs').2
    rw [← e, this] at h2
    simp at h2
    omega

theorem impCs_pw {t : Nat} : ∀ {ts : List T} {k : Nat}, (impCs t k ts).2.Pairwise fun p p' => p.1 ≠ p'.1
  | [], k => by simp [impCs]
  | x :: ts, k => by
    simp only [impCs]
    refine List.pairwise_append.2 ⟨by cases x <;> simp [impC], impCs_pw, fun p hp p' hp' e => ?_⟩
    have h2 := (impCs_keys hp').2.1
    have h1 : p.1 = (t, k) := by
      cases x <;> first
        | (simp only [impC, List.mem_singleton] at hp; subst hp; rfl)
        | (simp [impC] at hp)
    rw [← e, h1] at h2
    simp only at h2
    omega

theorem ents_kd {d : Nat} : ∀ {l : List (Hand × V)} {ts : List T} {i k : Nat}, (∀ s ∈ entsOf d i k l ts, i ≤ s.2.1) ∧ (entsOf d i k l ts).Pairwise fun s s' => s.2 ≠ s'.2
  | [], ts, i, k => by simp [entsOf]
  | (.lent _, _) :: l, ts, i, k => ents_kd (l := l) (ts := ts)
  | (.row _, v) :: l, [], i, k => by simp [entsOf]
  | (.rows _, v) :: l, [], i, k => by cases v <;> simp [entsOf]
  | (.cells _, v) :: l, [], i, k => by simp [entsOf]
  | (.row _, v) :: l, t :: ts, i, k => by
    obtain ⟨h1, h2⟩ := ents_kd (d := d) (l := l) (ts := ts) (i := i + 1) (k := k)
    simp only [entsOf]
    refine ⟨fun s hs => ?_, List.pairwise_append.2 ⟨entRow_pw, h2, fun s hs s' hs' e => ?_⟩⟩
    · rcases List.mem_append.1 hs with hs | hs
      · rw [entRow_kd hs]; exact Nat.le_refl _
      · have := h1 s hs; omega
    · have := h1 s' hs'
      rw [← e, entRow_kd hs] at this
      simp at this
      omega
  | (.rows _, v) :: l, t :: ts, i, k => by
    cases v with
    | agg vs =>
      obtain ⟨h1, h2⟩ := ents_kd (d := d) (l := l) (ts := ts) (i := i + 1) (k := k)
      simp only [entsOf]
      refine ⟨fun s hs => ?_, List.pairwise_append.2 ⟨entRows_pw, h2, fun s hs s' hs' e => ?_⟩⟩
      · rcases List.mem_append.1 hs with hs | hs
        · rw [(entRows_kd hs).1]; exact Nat.le_refl _
        · have := h1 s hs; omega
      · have := h1 s' hs'
        rw [← e, (entRows_kd hs).1] at this
        omega
    | _ => simp [entsOf]
  | (.cells fs, v) :: l, t :: ts, i, k => by
    cases t with
    | ptr cs =>
      obtain ⟨h1, h2⟩ := ents_kd (d := d) (l := l) (ts := ts) (i := i + 1) (k := k + fs.length)
      simp only [entsOf]
      refine ⟨fun s hs => ?_, List.pairwise_append.2 ⟨List.pairwise_map.2 ?_, h2, fun s hs s' hs' e => ?_⟩⟩
      · rcases List.mem_append.1 hs with hs | hs
        · obtain ⟨p, _, rfl⟩ := List.mem_map.1 hs; exact Nat.le_refl _
        · have := h1 s hs; omega
      · refine (List.Pairwise.imp_of_mem (R := fun p p' => p.1 ≠ p'.1) (fun {p p'} hp hp' hne e => ?_) impCs_pw)
        obtain ⟨a1, a2, _⟩ := impCs_keys hp
        obtain ⟨b1, b2, _⟩ := impCs_keys hp'
        simp only [Prod.mk.injEq, true_and] at e
        exact hne (Prod.ext (a1.trans b1.symm) (by omega))
      · obtain ⟨p, _, rfl⟩ := List.mem_map.1 hs
        have := h1 s' hs'
        rw [← e] at this
        simp only at this
        omega
    | _ => simp [entsOf]

end Go.Proofs.Ytekfjbejfondnaa.Tom
/-! What a called function promises. -/
namespace Go.Proofs.Ytekfjbejfondnaa.Tom
open Go

def Hand.kind : Hand → Nat
  | .lent _ => 0
  | .row _ => 1
  | .rows _ => 2
  | .cells _ => 3

/-- The handed arguments: their places and kinds. -/
def sigL : Nat → List (Hand × V) → List (Nat × Nat)
  | _, [] => []
  | t, (.lent _, _) :: l => sigL (t + 1) l
  | t, (.row _, _) :: l => (t, 1) :: sigL (t + 1) l
  | t, (.rows _, _) :: l => (t, 2) :: sigL (t + 1) l
  | t, (.cells _, _) :: l => (t, 3) :: sigL (t + 1) l

/-- An array given back under the name (base, k): the header is the argument's. -/
def RowBack (g : Gh) (D : Key → Option Node) (base k : Nat) : T → T → Value → Prop
  | .arr _ _ el, u, x => ∃ es el', u = .arr .own es el' ∧ el'.length = el.length ∧ D (base, k) = some ⟨.own, es, el'⟩ ∧ CellOk g ⟨1, (base, k), []⟩ u x
  | _, _, _ => True
def RowsBack (g : Gh) (D : Key → Option Node) (base : Nat) : Nat → List T → List T → List Value → Prop
  | _, [], us, _ => us = []
  | k, c :: cs, us, xs => ∃ u us' x xs', us = u :: us' ∧ xs = x :: xs' ∧ RowBack g D base k c u x ∧ RowsBack g D base (k + 1) cs us' xs'
def BackOk (g : Gh) (D : Key → Option Node) (b : List (Nat × Nat)) (W : World) (base : Nat) : Nat → T → T → Value → Prop
  | 1, a, u, x => RowBack g D base 0 a u x
  | 2, .agg cs, u, x => ∃ (us : List T) (xs : List Value), u = .agg us ∧ x = .agg xs.toArray ∧ RowsBack g D base 0 cs us xs
  | 3, .ptr cs, u, x => ∃ us, u = .ptr us ∧ us.length = cs.length ∧ AOk g D b W base u x
  | _, _, _, _ => True
def BacksOk (g : Gh) (D : Key → Option Node) (b : List (Nat × Nat)) (W : World) : Nat → List (Nat × Nat) → List T → List Value → List T → Prop
  | _, [], _, _, bs => bs = []
  | base, (t, kd) :: sg, as, xs, bs => ∃ u us a x, bs = u :: us ∧ as[t]? = some a ∧ xs[t]? = some x ∧ BackOk g D b W base kd a u x ∧ BacksOk g D b W (base + 1) sg as xs us

/-- What is true when a called function has returned. -/
def Post (C : Ctx) (sg : List (Nat × Nat)) (as : List T) (xs : List Value) (rs bs : List T) (e : Ending) (W' : World) : Prop :=
  ∃ v g' D' b', e = .returned v ∧ FInv C (atF (foD [] D')) b' W' g' ∧ (∀ L n, atF (foD [] D') L = some n → n.ro ≠ .lent) ∧ RetOk g' D' b' W' 0 rs v ∧ BacksOk g' D' b' W' 1 sg as xs bs

/-- The machine's answers are the program's. -/
def Sat (P : Program) (sig : Nat → List (Nat × Nat)) (F : Fun) : Prop := ∀ f as rs bs, F f as = some (rs, bs) → ∀ (C : Ctx) D b g xs,
  FInv C (atF (foD [] D)) b C.W0 g → ArgsOk g D b C.W0 0 as xs → Calls P f xs.toArray C.W0 (Post C (sig f) as xs rs bs)

/-- Which back a variable's cells are in. -/
def boxIdx : Nat → List (Hand × V) → Nat → Option Nat
  | _, [], _ => none
  | i, (.lent _, _) :: l, d => boxIdx i l d
  | i, (.row _, _) :: l, d => boxIdx (i + 1) l d
  | i, (.rows _, _) :: l, d => boxIdx (i + 1) l d
  | i, (.cells _, .bx b _) :: l, d => if b = d then some i else boxIdx (i + 1) l d
  | i, (.cells _, _) :: l, d => boxIdx (i + 1) l d

theorem boxIdx_ge : ∀ {l : List (Hand × V)} {i d t : Nat}, boxIdx i l d = some t → i ≤ t
  | [], _, _, _, h => by cases h
  | (hd, v) :: l, i, d, t, h => by
    cases hd with
    | lent _ => exact boxIdx_ge (l := l) h
    | row _ => have := boxIdx_ge (l := l) (i := i + 1) h; omega
    | rows _ => have := boxIdx_ge (l := l) (i := i + 1) h; omega
    | cells _ =>
      cases v <;> first
        | (have := boxIdx_ge (l := l) (i := i + 1) h; omega)
        | (simp only [boxIdx] at h
           split at h
           · have := Option.some.inj h; omega
           · have := boxIdx_ge (l := l) (i := i + 1) h; omega)

theorem boxIdx_inj : ∀ {l : List (Hand × V)} {i d d' t : Nat}, boxIdx i l d = some t → boxIdx i l d' = some t → d = d'
  | [], _, _, _, _, h, _ => by cases h
  | (hd, v) :: l, i, d, d', t, h, h' => by
    cases hd with
    | lent _ => exact boxIdx_inj (l := l) h h'
    | row _ => exact boxIdx_inj (l := l) (i := i + 1) h h'
    | rows _ => exact boxIdx_inj (l := l) (i := i + 1) h h'
    | cells _ =>
      by_cases hv : ∃ b c, v = .bx b c
      · obtain ⟨b, c, rfl⟩ := hv
        simp only [boxIdx] at h h'
        split at h <;> split at h'
        · rename_i e1 e2; exact e1.symm.trans e2
        · have := boxIdx_ge h'; have := Option.some.inj h; omega
        · have := boxIdx_ge h; have := Option.some.inj h'; omega
        · exact boxIdx_inj h h'
      · have e : ∀ d, boxIdx i ((Hand.cells ‹_›, v) :: l) d = boxIdx (i + 1) l d := by
          intro d
          cases v <;> first | rfl | exact (hv ⟨_, _, rfl⟩).elim
        rw [e] at h h'
        exact boxIdx_inj h h'

theorem boxIdx_none : ∀ {l : List (Hand × V)} {i d : Nat}, boxIdx i l d = none → ∀ (t : Nat) (fs : Fat) (c : Nat), l[t]? ≠ some (Hand.cells fs, V.bx d c)
  | [], _, _, _, t, _, _, h => by simp at h
  | (hd, v) :: l, i, d, h, t, fs, c, hl => by
    cases t with
    | zero =>
      obtain ⟨rfl, rfl⟩ := Prod.mk.inj (Option.some.inj hl)
      simp [boxIdx] at h
    | succ t =>
      have hl' : l[t]? = some (Hand.cells fs, V.bx d c) := by simpa using hl
      cases hd with
      | lent _ => exact boxIdx_none (l := l) (i := i) h t fs c hl'
      | row _ => exact boxIdx_none (l := l) (i := i + 1) h t fs c hl'
      | rows _ => exact boxIdx_none (l := l) (i := i + 1) h t fs c hl'
      | cells _ =>
        cases v <;> first
          | exact boxIdx_none (l := l) (i := i + 1) h t fs c hl'
          | (simp only [boxIdx] at h
             split at h
             · cases h
             · exact boxIdx_none (l := l) (i := i + 1) h t fs c hl')

end Go.Proofs.Ytekfjbejfondnaa.Tom
/-! A call's end: what the given trees are to the caller. -/
namespace Go.Proofs.Ytekfjbejfondnaa.Tom
open Go

/-- A place whose array was handed: the header behind the call is the old one. -/
structure SrcFact (r1 : Roots) (g1 g' : Gh) (s : Entr) : Prop where
  node : ∃ m, nodeAt r1 s.1 = some m
  cap : (g'.hd ⟨1, s.2, []⟩).cap = (g1.hd s.1.g).cap
  a : (g1.hd s.1.g).cap ≠ 0 → (g'.hd ⟨1, s.2, []⟩).a = (g1.hd s.1.g).a

section
variable {C : Ctx} {S : St} {W W' : World} {g g1 g' : Gh} {tm : Nat → Value} {r1 : Roots} {D1 D' : Key → Option Node} {b' : List (Nat × Nat)} {l0 : List (Hand × V)} {as : List T} {xs : List Value}

theorem row_fact {fo : NSet} {b : List (Nat × Nat)} (hfo : ∀ L : Loc, fo L.g = nodeAt r1 L) {f : Option Nat} {v : V} {a u : T} {x : Value} {base k : Nat} (hh : handRow r1 f v = some a) (hv : VOk g1 fo b v x) (hb : RowBack g' D' base k a u x) :
    RowD D' base k v u ∧ ∀ s ∈ entRow base k v, SrcFact r1 g1 g' s := by
  cases v with
  | sl L off len =>
    simp only [handRow] at hh
    obtain ⟨m, hm, hh⟩ := Option.bind_eq_some_iff.1 hh
    split at hh
    · rename_i hc
      obtain ⟨h1, h2, h3⟩ := hc
      obtain rfl := Option.some.inj hh
      obtain ⟨es, el', rfl, e1, e2, e3⟩ := hb
      refine ⟨fun L' o n es' el'' _ h => ?_, fun s hs => ?_⟩
      · simp only [T.arr.injEq, true_and] at h
        obtain ⟨rfl, rfl⟩ := h
        exact e2
      · simp only [entRow, List.mem_singleton] at hs
        subst hs
        obtain ⟨ad, c, rfl, hv⟩ := hv
        obtain ⟨f1, f2, f3⟩ := hv m ((hfo L).trans hm)
        simp only [CellOk, Value.slice.injEq] at e3
        obtain ⟨q1, q2, q3⟩ := e3
        refine ⟨⟨m, hm⟩, ?_, fun hc => ?_⟩
        · simp only; omega
        · simp only at hc ⊢
          obtain ⟨q, o, p1, p2⟩ := f3 (by omega)
          rw [← q1, p1, p2, h2]
          simp
    · cases hh
  | _ => exact ⟨fun _ _ _ _ _ h => (by cases h), fun s hs => (by cases hs)⟩

theorem rows_fact {fo : NSet} {b : List (Nat × Nat)} (hfo : ∀ L : Loc, fo L.g = nodeAt r1 L) {base : Nat} : ∀ {vs : List V} {fs : Fat} {cs us : List T} {xs : List Value} {k : Nat}, handRows r1 fs vs = some cs → VsOk g1 fo b vs xs → RowsBack g' D' base k cs us xs →
    RowsD D' base k vs us ∧ ∀ s ∈ entRows base k vs, SrcFact r1 g1 g' s
  | [], fs, cs, us, xs, k, hh, hv, hb => by
    cases us <;> exact ⟨trivial, fun s hs => (by cases hs)⟩
  | v :: vs, fs, cs, us, xs, k, hh, hv, hb => by
    simp only [handRows] at hh
    obtain ⟨t, h1, hh⟩ := Option.bind_eq_some_iff.1 hh
    obtain ⟨ts, h2, rfl⟩ := Option.map_eq_some_iff.1 hh
    obtain ⟨x, ys, rfl, h3, h4⟩ := hv
    obtain ⟨u, us', x', xs', rfl, e, h5, h6⟩ := hb
    obtain ⟨rfl, rfl⟩ := List.cons.inj e
    obtain ⟨i1, i2⟩ := row_fact hfo h1 h3 h5
    obtain ⟨j1, j2⟩ := rows_fact hfo h2 h4 h6
    refine ⟨⟨i1, j1⟩, fun s hs => ?_⟩
    simp only [entRows, List.mem_append] at hs
    exact hs.elim (i2 s) (j2 s)

/-- What stands in a variable whose cells were handed. -/
def BoxFact (g1 g' : Gh) (D' : Key → Option Node) (b' : List (Nat × Nat)) (W' : World) (l0 : List (Hand × V)) (dd : Nat) (r : Roots) (e1 : Env) (E : List Entr) (d i : Nat) : Prop :=
  ∃ (t : Nat) (fs : Fat) (c : Nat) (cs : List T) (ys : List Value) (kk : Nat), l0[t]? = some (.cells fs, .bx d c) ∧ cs.length = fs.length ∧ getB b' i = some fs.length ∧ g'.bx i = ((g1.bx d).1, (g1.bx d).2 + c) ∧ CsOk g' D' i 0 cs ys ∧
    (∀ (j : Nat) (v : Value), ys[j]? = some v → W'.cell? ⟨(g1.bx d).1, (g1.bx d).2 + c + j, none⟩ = some v) ∧
    (∀ rest j, lk (e1 ++ rest) (d, j) = if c + 1 ≤ j ∧ j < c + 1 + fs.length then (impCs dd kk cs).1.getD (j - 1 - c) .un else lk rest (d, j)) ∧
    ∀ q ∈ (impCs dd kk cs).2, ((⟨q.1, []⟩, (i, q.1.2 - kk)) : Entr) ∈ E ∧ getR r q.1 = none

theorem noneMono {r r' : Roots} (h : ∀ k, (getR r k).isSome = true → (getR r' k).isSome = true) {k : Key} (hk : getR r' k = none) : getR r k = none := by
  cases e : getR r k with
  | none => rfl
  | some n => have := h k (by rw [e]; rfl); rw [hk] at this; cases this

theorem impCs_len (t : Nat) : ∀ (cs : List T) (k : Nat), (impCs t k cs).1.length = cs.length
  | [], _ => rfl
  | c :: cs, k => by simp [impCs, impCs_len t cs]

theorem rowMono {r r' : Roots} {v : V} {t : T} {p : List Loc} (h : backRow r v t = some (r', p)) : ∀ k, (getR r k).isSome = true → (getR r' k).isSome = true := by
  intro k hk
  unfold backRow at h
  split at h
  · obtain ⟨n, hn, h⟩ := Option.bind_eq_some_iff.1 h
    split at h
    · obtain ⟨r1, hr, h⟩ := Option.map_eq_some_iff.1 h
      obtain ⟨rfl, rfl⟩ := Prod.mk.inj h
      obtain ⟨m, e', h1, h2, h3, h4, h5⟩ := modAt_some (newEl_len _) hr
      rw [h5]; exact hk
    · cases h
  · cases h
  · obtain ⟨rfl, rfl⟩ := Prod.mk.inj (Option.some.inj h)
    exact hk

theorem rowsMono : ∀ {vs : List V} {ts : List T} {r r' : Roots} {p : List Loc}, backRows r vs ts = some (r', p) → ∀ k, (getR r k).isSome = true → (getR r' k).isSome = true
  | [], [], r, r', p, h, k, hk => by obtain ⟨rfl, rfl⟩ := Prod.mk.inj (Option.some.inj h); exact hk
  | [], _ :: _, _, _, _, h, _, _ => by cases h
  | _ :: _, [], _, _, _, h, _, _ => by cases h
  | v :: vs, t :: ts, r, r', p, h, k, hk => by
    simp only [backRows] at h
    obtain ⟨⟨r1, p1⟩, h1, h⟩ := Option.bind_eq_some_iff.1 h
    obtain ⟨⟨r2, p2⟩, h2, e⟩ := Option.map_eq_some_iff.1 h
    obtain ⟨rfl, rfl⟩ := Prod.mk.inj e
    exact rowsMono h2 k (rowMono h1 k hk)

theorem backs_all (hh : Handed S W g g1 r1 D1 l0 as xs) (hV : VsOk g1 (atF (foD r1 D1)) S.b (l0.map (·.2)) xs) (hbx : g1.bx = g.bx) {dd : Nat} : ∀ (l : List (Hand × V)) (t0 base k : Nat) (bs : List T) (r r2 : Roots) (e1 : Env) (p : List Loc),
    (∀ i, l[i]? = l0[t0 + i]?) → nodupB (ptrsOf l) = true → BacksOk g' D' b' W' base (sigL t0 l) as xs bs → backs dd k r l bs = some (e1, r2, p) →
    DOk D' base l bs ∧ (∀ s ∈ srcsOf base l, SrcFact r1 g1 g' s) ∧ (∀ rest t, lk (e1 ++ rest) (t, 0) = lk rest (t, 0)) ∧ (∀ d, boxIdx base l d = none → ∀ rest j, lk (e1 ++ rest) (d, j) = lk rest (d, j)) ∧
      ∀ d i, boxIdx base l d = some i → BoxFact g1 g' D' b' W' l0 dd r e1 (entsOf dd base k l bs) d i
  | [], t0, base, k, bs, r, r2, e1, p, _, _, hB, hb => by
    simp only [sigL, BacksOk] at hB
    subst hB
    simp only [backs, Option.some.injEq, Prod.mk.injEq] at hb
    obtain ⟨rfl, _, _⟩ := hb
    exact ⟨trivial, fun s hs => (by cases hs), fun _ _ => rfl, fun _ _ _ _ => rfl, fun _ _ h => (by cases h)⟩
  | (hd, v) :: l, t0, base, k, bs, r, r2, e1, p, hl, hnd, hB, hb => by
    have hl' : ∀ i, l[i]? = l0[t0 + 1 + i]? := fun i => by
      have := hl (i + 1)
      rw [show t0 + 1 + i = t0 + (i + 1) by omega]
      simpa using this
    have h0 : l0[t0]? = some (hd, v) := (hl 0).symm.trans rfl
    obtain ⟨x0, hx0, hv0⟩ := hV.get t0 v (by simp [h0])
    cases hd with
    | lent fs => exact backs_all hh hV hbx l (t0 + 1) base k bs r r2 e1 p hl' hnd hB hb
    | row fs =>
      obtain ⟨u, us, a, x, rfl, ha, hx, hk, hB⟩ := hB
      rw [hx0] at hx
      obtain rfl := Option.some.inj hx
      simp only [backs] at hb
      obtain ⟨⟨r3, p1⟩, h1, hb⟩ := Option.bind_eq_some_iff.1 hb
      obtain ⟨⟨e2, r4, p2⟩, h2, e3⟩ := Option.map_eq_some_iff.1 hb
      simp only [Prod.mk.injEq] at e3
      obtain ⟨rfl, rfl, rfl⟩ := e3
      obtain ⟨a', r', ha', hA⟩ := hh.hA t0 _ v h0 rfl
      rw [ha] at ha'
      obtain rfl := Option.some.inj ha'
      simp only [handA] at hA
      obtain ⟨t, hA', e⟩ := Option.map_eq_some_iff.1 hA
      obtain ⟨rfl, rfl⟩ := Prod.mk.inj e
      obtain ⟨i1, i2, i3, i4, i5⟩ := backs_all hh hV hbx l (t0 + 1) (base + 1) k us r3 r4 e2 p2 hl' hnd hB h2
      obtain ⟨j1, j2⟩ := row_fact (fo := atF (foD r1 D1)) (fun L => rfl) hA' hv0 hk
      have hmono := (backRow_gave (d := dd) h1 j1).mono
      refine ⟨⟨j1, i1⟩, fun s hs => ?_, i3, i4, fun d i hi => ?_⟩
      · simp only [srcsOf, List.mem_append] at hs
        exact hs.elim (j2 s) (i2 s)
      · obtain ⟨t, fs', c, cs, ys, kk, q1, q2, q3, q4, q5, q6, q7, q8⟩ := i5 d i hi
        exact ⟨t, fs', c, cs, ys, kk, q1, q2, q3, q4, q5, q6, q7, fun q hq => ⟨List.mem_append_right _ (q8 q hq).1, noneMono hmono (q8 q hq).2⟩⟩
    | rows fs =>
      obtain ⟨u, us, a, x, rfl, ha, hx, hk, hB⟩ := hB
      rw [hx0] at hx
      obtain rfl := Option.some.inj hx
      obtain ⟨a', r', ha', hA⟩ := hh.hA t0 _ v h0 rfl
      rw [ha] at ha'
      obtain rfl := Option.some.inj ha'
      cases v <;> try (cases u <;> cases hb; done)
      case agg vs =>
        cases u <;> try (cases hb; done)
        case agg us' =>
          simp only [backs] at hb
          obtain ⟨⟨r3, p1⟩, h1, hb⟩ := Option.bind_eq_some_iff.1 hb
          obtain ⟨⟨e2, r4, p2⟩, h2, e3⟩ := Option.map_eq_some_iff.1 hb
          simp only [Prod.mk.injEq] at e3
          obtain ⟨rfl, rfl, rfl⟩ := e3
          simp only [handA] at hA
          obtain ⟨t, hA', e⟩ := Option.map_eq_some_iff.1 hA
          obtain ⟨rfl, rfl⟩ := Prod.mk.inj e
          obtain ⟨us2, xs2, e4, rfl, hk⟩ := hk
          obtain rfl : us' = us2 := by simpa using e4
          obtain ⟨i1, i2, i3, i4, i5⟩ := backs_all hh hV hbx l (t0 + 1) (base + 1) k us r3 r4 e2 p2 hl' hnd hB h2
          obtain ⟨xs3, e5, hv0⟩ := hv0
          obtain rfl : xs2 = xs3 := by simpa using e5
          obtain ⟨j1, j2⟩ := rows_fact (fo := atF (foD r1 D1)) (fun L => rfl) hA' hv0 hk
          have hmono := rowsMono h1
          refine ⟨⟨j1, i1⟩, fun s hs => ?_, i3, i4, fun d i hi => ?_⟩
          · simp only [srcsOf, List.mem_append] at hs
            exact hs.elim (j2 s) (i2 s)
          · obtain ⟨t, fs', c, cs, ys, kk, q1, q2, q3, q4, q5, q6, q7, q8⟩ := i5 d i hi
            exact ⟨t, fs', c, cs, ys, kk, q1, q2, q3, q4, q5, q6, q7, fun q hq => ⟨List.mem_append_right _ (q8 q hq).1, noneMono hmono (q8 q hq).2⟩⟩
    | cells fs =>
      obtain ⟨u, us, a, x, rfl, ha, hx, hk, hB⟩ := hB
      rw [hx0] at hx
      obtain rfl := Option.some.inj hx
      obtain ⟨d0, c0, m0, cs0, ys0, rfl, k2, k3, k4, k5, k6, k7, k8, k9⟩ := hh.B t0 fs v h0
      rw [ha] at k4
      obtain rfl := Option.some.inj k4
      rw [hx0] at k7
      obtain rfl := Option.some.inj k7
      obtain ⟨cs, rfl, hcl, hk⟩ := hk
      simp only [backs] at hb
      split at hb
      · rename_i hlen
        obtain ⟨r3, h1, hb⟩ := Option.bind_eq_some_iff.1 hb
        obtain ⟨⟨e2, r4, p2⟩, h2, e3⟩ := Option.map_eq_some_iff.1 hb
        simp only [Prod.mk.injEq] at e3
        obtain ⟨rfl, rfl, rfl⟩ := e3
        obtain ⟨ys, q, o, e4, e5, e6, e7, e8⟩ := hk
        simp only [Value.pointer.injEq, Option.some.injEq, Addr.mk.injEq] at e4
        obtain ⟨rfl, rfl, _⟩ := e4
        have hnd' : nodupB (ptrsOf l) = true ∧ (ptrsOf l).contains d0 = false := by
          simp only [ptrsOf, nodupB, Bool.and_eq_true, Bool.not_eq_true'] at hnd
          exact ⟨hnd.2, hnd.1⟩
        obtain ⟨i1, i2, i3, i4, i5⟩ := backs_all hh hV hbx l (t0 + 1) (base + 1) (k + fs.length) us r3 r4 e2 p2 hl' hnd'.1 hB h2
        have hno : boxIdx (base + 1) l d0 = none := by
          cases e : boxIdx (base + 1) l d0 with
          | none => rfl
          | some i =>
            have := boxIdx_mem e
            rw [← List.contains_iff_mem, hnd'.2] at this
            cases this
        refine ⟨⟨fun j t ht => ?_, i1⟩, i2, fun rest t => ?_, fun d hd rest j => ?_, fun d i hi => ?_⟩
        · obtain ⟨_, _, _, hD⟩ := CsOk.get e8 j t ht
          rwa [Nat.zero_add] at hD
        · rw [List.append_assoc, lk_slots, if_neg (by simp), i3]
        · simp only [boxIdx] at hd
          split at hd
          · cases hd
          · rename_i hne
            rw [List.append_assoc, lk_slots, if_neg (fun hc => hne hc.1.symm), i4 d hd]
        · simp only [boxIdx] at hi
          split at hi
          · rename_i he
            subst he
            obtain rfl := Option.some.inj hi
            refine ⟨t0, fs, c0, cs, ys, k, h0, hlen, by rw [e6, hlen], by rw [e5, hbx], e8, fun j v hj => ?_, fun rest j => ?_, fun q hq => ?_⟩
            · rw [hbx]; exact e7 j v hj
            · rw [List.append_assoc, lk_slots, impCs_len, hlen]
              by_cases hc : c0 + 1 ≤ j ∧ j < c0 + 1 + fs.length
              · rw [if_pos ⟨rfl, hc⟩, if_pos hc]
              · rw [if_neg (fun h => hc h.2), if_neg hc, i4 d0 hno]
            · exact ⟨List.mem_append_left _ (List.mem_map.2 ⟨q, hq, rfl⟩), (newRoots_app h1).2.1 q hq⟩
          · rename_i hne
            obtain ⟨t, fs', c, cs', ys', kk, q1, q2, q3, q4, q5, q6, q7, q8⟩ := i5 d i hi
            obtain ⟨ea, _, _⟩ := newRoots_app h1
            refine ⟨t, fs', c, cs', ys', kk, q1, q2, q3, q4, q5, q6, fun rest j => ?_, fun q hq => ⟨List.mem_append_right _ (q8 q hq).1, noneMono (fun k hk => by rw [ea, getR_app]; cases getR (impCs dd _ cs).2 k <;> simp_all) (q8 q hq).2⟩⟩
            rw [List.append_assoc, lk_slots, if_neg (fun hc => hne hc.1.symm), q7]
      · cases hb
where
  boxIdx_mem : ∀ {l : List (Hand × V)} {i d t : Nat}, boxIdx i l d = some t → d ∈ ptrsOf l
  | [], _, _, _, h => by cases h
  | (hd, v) :: l, i, d, t, h => by
    cases hd with
    | lent _ => exact boxIdx_mem (l := l) h
    | row _ => exact boxIdx_mem (l := l) (i := i + 1) h
    | rows _ => exact boxIdx_mem (l := l) (i := i + 1) h
    | cells _ =>
      cases v <;> first
        | exact boxIdx_mem (l := l) (i := i + 1) h
        | (simp only [boxIdx] at h
           split at h
           · rename_i e; subst e; exact List.mem_cons_self
           · exact List.mem_cons_of_mem _ (boxIdx_mem h))

end
end Go.Proofs.Ytekfjbejfondnaa.Tom
/-! A call's end: the caller's memory behind it. -/
namespace Go.Proofs.Ytekfjbejfondnaa.Tom
open Go

theorem pw_mem {α : Type} {R : α → α → Prop} (hs : ∀ a b, R a b → R b a) : ∀ {l : List α}, l.Pairwise R → ∀ a ∈ l, ∀ b ∈ l, a = b ∨ R a b
  | x :: l, h, a, ha, b, hb => by
    obtain ⟨h1, h2⟩ := List.pairwise_cons.1 h
    rcases List.mem_cons.1 ha with ea | ha' <;> rcases List.mem_cons.1 hb with eb | hb'
    · exact .inl (ea.trans eb.symm)
    · exact .inr (by rw [ea]; exact h1 _ hb')
    · exact .inr (by rw [eb]; exact hs _ _ (h1 _ ha'))
    · exact pw_mem hs h2 _ ha' _ hb'

open Classical in
/-- Where a place of the caller's memory comes from. -/
noncomputable def endφ (E : List Entr) (L : GLoc) : Bool × GLoc :=
  if L.z = 0 then (if h : ∃ s ∈ E, Under s.1 ⟨L.k, L.p⟩ then (true, ⟨1, (Classical.choose h).2, L.p.drop (Classical.choose h).1.path.length⟩) else (false, L)) else (false, L)

open Classical in
noncomputable def endG (g1 g' : Gh) (b : List (Nat × Nat)) (src E : List Entr) : Gh :=
  ⟨fun L => if ∃ s ∈ src, L = s.1.g then g1.hd L else if (endφ E L).1 = true then g'.hd (endφ E L).2 else g1.hd L, fun d => if getB b d = none then g'.bx 0 else g1.bx d⟩

/-- What is known when all has been given back. -/
structure CallFin (r1 r3 : Roots) (D' : Key → Option Node) (g1 g' : Gh) (d : Nat) (src E : List Entr) (p : List Loc) : Prop where
  gave : Gave D' d r1 r3 src E p
  kd : E.Pairwise fun s s' => s.2 ≠ s'.2
  fact : ∀ s ∈ src, SrcFact r1 g1 g' s
  sub : ∀ s ∈ src, s ∈ E

section
variable {C C' : Ctx} {S : St} {W W' : World} {g g1 g' : Gh} {tm : Nat → Value} {r1 r3 : Roots} {D1 D' : Key → Option Node} {b b' : List (Nat × Nat)} {d : Nat} {src E : List Entr} {p : List Loc}

theorem CallFin.one (h : CallFin r1 r3 D' g1 g' d src E p) {s s' : Entr} (hs : s ∈ E) (hs' : s' ∈ E) {M : Loc} (hu : Under s.1 M) (hu' : Under s'.1 M) : s = s' := by
  rcases pw_mem (fun a b (hab : a.1.meets b.1 = false) => by rw [meets_comm]; exact hab) h.gave.apart s hs s' hs' with e | e
  · exact e
  · rw [hu.meets hu'] at e; cases e

theorem CallFin.in (h : CallFin r1 r3 D' g1 g' d src E p) {s : Entr} (hs : s ∈ E) (q : Path) : endφ E ⟨0, s.1.key, s.1.path ++ q⟩ = (true, ⟨1, s.2, q⟩) := by
  have hu : Under s.1 ⟨s.1.key, s.1.path ++ q⟩ := ⟨rfl, ⟨q, rfl⟩⟩
  have hx : ∃ s' ∈ E, Under s'.1 ⟨s.1.key, s.1.path ++ q⟩ := ⟨s, hs, hu⟩
  unfold endφ
  rw [if_pos rfl, dif_pos hx]
  have := Classical.choose_spec hx
  have e := h.one hs this.1 hu this.2
  rw [← e]
  simp

theorem endφ_out {L : Loc} (h : ∀ s ∈ E, ¬ Under s.1 L) : endφ E L.g = (false, L.g) := by
  unfold endφ
  rw [if_pos (show L.g.z = 0 from rfl), dif_neg (fun ⟨s, hs, hu⟩ => h s hs hu)]

theorem endG_src {s : Entr} (hs : s ∈ src) : (endG g1 g' b src E).hd s.1.g = g1.hd s.1.g := by
  unfold endG
  simp only
  rw [if_pos ⟨s, hs, rfl⟩]

theorem endG_out {L : Loc} (h : ∀ s ∈ E, ¬ Under s.1 L) : (endG g1 g' b src E).hd L.g = g1.hd L.g := by
  unfold endG
  simp only [endφ_out h]
  simp

theorem CallFin.hdin (h : CallFin r1 r3 D' g1 g' d src E p) {s : Entr} (hs : s ∈ E) {q : Path} (hq : q = [] → s ∉ src) : (endG g1 g' b src E).hd ⟨0, s.1.key, s.1.path ++ q⟩ = g'.hd ⟨1, s.2, q⟩ := by
  unfold endG
  simp only [h.in hs q, if_true]
  rw [if_neg]
  rintro ⟨s', hs', he⟩
  simp only [Loc.g, GLoc.mk.injEq, true_and] at he
  have hu : Under s.1 s'.1 := ⟨he.1.symm, ⟨q, he.2⟩⟩
  have e := h.one hs (h.sub s' hs') hu (Under.self _)
  subst e
  have : q = [] := by
    have := congrArg List.length he.2
    simp only [List.length_append] at this
    exact List.eq_nil_of_length_eq_zero (by omega)
  exact hq this hs'

theorem Like.simE {g g' : Gh} {W : World} {L M : GLoc} {n' n : Node} (h : Like n' n) (hn : NodeOk g W M n) (h1 : (g'.hd L).cap = (g.hd M).cap) (h1' : (g.hd M).cap ≠ 0 → (g'.hd L).a = (g.hd M).a)
    (h2 : ∀ i j, g'.hd (L.ext i j) = g.hd (M.ext i j)) : Sim g g' L M 0 n' n :=
  ⟨h.es, by rw [h1]; rfl, fun hc => by
      rw [h1] at hc
      rw [h1' hc]
      obtain ⟨q, o, _, _, ha, _⟩ := hn.mem hc
      exact ⟨q, o, ha, by simpa using ha⟩, by rw [h1, h.shape.1]; exact hn.len, by rw [h.es]; exact h.shape.rows hn.rows, fun i j t ht => by
      obtain ⟨t1, h3, h4⟩ := h.cells i j t ht
      exact ⟨t1, h3, h4, fun _ _ _ _ => h2 i j⟩⟩

theorem ext_under {L M : Loc} {i j : Nat} (h : Under L (M.ext i j)) (hn : ¬ Under L M) : L = M.ext i j := by
  obtain ⟨h1, q, h2⟩ := h
  cases hq : q.reverse with
  | nil =>
    obtain rfl : q = [] := by simpa using hq
    rw [List.append_nil] at h2
    obtain ⟨k, p⟩ := L
    simp only [Loc.ext] at h1 h2
    subst h1 h2
    rfl
  | cons x q' =>
    exfalso
    obtain rfl : q = q'.reverse ++ [x] := by
      have := congrArg List.reverse hq
      simpa using this
    simp only [Loc.ext, ← List.append_assoc] at h2
    have := List.append_inj_left' h2 rfl
    exact hn ⟨h1, ⟨_, this⟩⟩

/-- The nodes behind the call. -/
theorem CallFin.nodes (h : CallFin r1 r3 D' g1 g' d src E p) (hf : FInv C (atF (foD r1 D1)) b W g1) (hf' : FInv C' (atF (foD [] D')) b' W' g') (M : Loc) (n'' : Node) (hn : nodeAt r3 M = some n'') :
    (endφ E M.g = (false, M.g) ∧ (∀ s ∈ E, ¬ Under s.1 M) ∧ ∃ n, nodeAt r1 M = some n ∧ Like n'' n ∧ Sim g1 (endG g1 g' b src E) M.g M.g 0 n'' n) ∨
    (∃ s ∈ E, ∃ q m n, M = ⟨s.1.key, s.1.path ++ q⟩ ∧ D' s.2 = some m ∧ walk m q = some n ∧ endφ E M.g = (true, ⟨1, s.2, q⟩) ∧ Like n'' n ∧ Sim g' (endG g1 g' b src E) M.g ⟨1, s.2, q⟩ 0 n'' n) := by
  rcases h.gave.rel M n'' hn with ⟨n, h1, h2, h3⟩ | ⟨s, hs, q, n, m, rfl, h2, h3, h4⟩
  · refine .inl ⟨endφ_out h3, h3, n, h1, h2, h2.sim (hf.node M.g n h1) (endG_out h3) (fun i j => ?_)⟩
    show (endG g1 g' b src E).hd (M.ext i j).g = g1.hd (M.ext i j).g
    by_cases hu : ∃ s ∈ E, Under s.1 (M.ext i j)
    · obtain ⟨s, hs, hu⟩ := hu
      have e := ext_under hu (h3 s hs)
      rw [← e]
      rcases h.gave.ent s hs with hss | ⟨hp, _⟩
      · exact endG_src hss
      · rw [e] at hp; simp [Loc.ext] at hp
    · exact endG_out fun s hs hu' => hu ⟨s, hs, hu'⟩
  · have hat : atF (foD [] D') ⟨1, s.2, q⟩ = some n := atF_one h2 h3
    have hok := hf'.node _ _ hat
    refine .inr ⟨s, hs, q, m, n, rfl, h2, h3, h.in hs q, h4, h4.simE hok ?_ ?_ fun i j => ?_⟩
    · by_cases hc : q = [] ∧ s ∈ src
      · obtain ⟨rfl, hss⟩ := hc
        simp only [List.append_nil]
        rw [show (⟨s.1.key, s.1.path⟩ : Loc) = s.1 from rfl, endG_src hss, (h.fact s hss).cap]
      · rw [show Loc.g ⟨s.1.key, s.1.path ++ q⟩ = ⟨0, s.1.key, s.1.path ++ q⟩ from rfl, h.hdin hs (fun e hss => hc ⟨e, hss⟩)]
    · intro hcap
      by_cases hc : q = [] ∧ s ∈ src
      · obtain ⟨rfl, hss⟩ := hc
        simp only [List.append_nil]
        rw [show (⟨s.1.key, s.1.path⟩ : Loc) = s.1 from rfl, endG_src hss, (h.fact s hss).a (by rw [← (h.fact s hss).cap]; exact hcap)]
      · rw [show Loc.g ⟨s.1.key, s.1.path ++ q⟩ = ⟨0, s.1.key, s.1.path ++ q⟩ from rfl, h.hdin hs (fun e hss => hc ⟨e, hss⟩)]
    · show (endG g1 g' b src E).hd ⟨0, s.1.key, (s.1.path ++ q) ++ [(i, j)]⟩ = _
      rw [List.append_assoc, h.hdin hs (by simp)]
      rfl

theorem CallFin.inj (h : CallFin r1 r3 D' g1 g' d src E p) {M M' : Loc} {n n' : Node} (hn : nodeAt r3 M = some n) (hn' : nodeAt r3 M' = some n') (he : endφ E M.g = endφ E M'.g) : M = M' := by
  have key : ∀ {M : Loc} {n : Node}, nodeAt r3 M = some n → endφ E M.g = (false, M.g) ∨ ∃ s ∈ E, ∃ q, M = ⟨s.1.key, s.1.path ++ q⟩ ∧ endφ E M.g = (true, ⟨1, s.2, q⟩) := by
    intro M n hn
    rcases h.gave.rel M n hn with ⟨n, h1, h2, h3⟩ | ⟨s, hs, q, n, m, rfl, h2, h3, h4⟩
    · exact .inl (endφ_out h3)
    · exact .inr ⟨s, hs, q, rfl, h.in hs q⟩
  rcases key hn with e | ⟨s, hs, q, rfl, e⟩ <;> rcases key hn' with e' | ⟨s', hs', q', rfl, e'⟩ <;> rw [e, e'] at he
  · simp only [Prod.mk.injEq, true_and] at he
    obtain ⟨k, p⟩ := M
    obtain ⟨k', p'⟩ := M'
    simp only [Loc.g, GLoc.mk.injEq, true_and] at he
    rw [he.1, he.2]
  · simp at he
  · simp at he
  · simp only [Prod.mk.injEq, true_and, GLoc.mk.injEq] at he
    rcases pw_mem (fun a b (hab : a.2 ≠ b.2) => hab.symm) h.kd s hs s' hs' with e2 | e2
    · subst e2; rw [he.2]
    · exact (e2 he.1).elim

end
end Go.Proofs.Ytekfjbejfondnaa.Tom
/-! A call's end: lists of places; values of new trees. -/
namespace Go.Proofs.Ytekfjbejfondnaa.Tom
open Go

theorem entRow_loc {i k : Nat} {v : V} {s : Entr} (h : s ∈ entRow i k v) : s.1 ∈ v.locs := by
  cases v <;> first
    | (simp only [entRow, List.mem_singleton] at h; subst h; simp [V.locs])
    | (simp [entRow] at h)

theorem entRows_loc {i : Nat} : ∀ {vs : List V} {k : Nat} {s : Entr}, s ∈ entRows i k vs → s.1 ∈ locsL vs
  | [], k, s, h => by simp [entRows] at h
  | v :: vs, k, s, h => by
    simp only [entRows, List.mem_append] at h
    simp only [locsL, List.mem_append]
    exact h.imp entRow_loc entRows_loc

theorem srcs_loc : ∀ {l : List (Hand × V)} {i : Nat} {s : Entr}, s ∈ srcsOf i l → ∃ x ∈ l, s.1 ∈ claims x.1 x.2
  | [], _, _, h => by cases h
  | (hd, v) :: l, i, s, h => by
    cases hd with
    | lent _ => obtain ⟨x, h1, h2⟩ := srcs_loc (l := l) h; exact ⟨x, List.mem_cons_of_mem _ h1, h2⟩
    | cells _ => obtain ⟨x, h1, h2⟩ := srcs_loc (l := l) (i := i + 1) h; exact ⟨x, List.mem_cons_of_mem _ h1, h2⟩
    | row fs =>
      simp only [srcsOf, List.mem_append] at h
      rcases h with h | h
      · exact ⟨_, List.mem_cons_self, entRow_loc h⟩
      · obtain ⟨x, h1, h2⟩ := srcs_loc (l := l) h; exact ⟨x, List.mem_cons_of_mem _ h1, h2⟩
    | rows fs =>
      by_cases hv : ∃ vs, v = .agg vs
      · obtain ⟨vs, rfl⟩ := hv
        simp only [srcsOf, List.mem_append] at h
        rcases h with h | h
        · exact ⟨_, List.mem_cons_self, entRows_loc h⟩
        · obtain ⟨x, h1, h2⟩ := srcs_loc (l := l) h; exact ⟨x, List.mem_cons_of_mem _ h1, h2⟩
      · have e : srcsOf i ((Hand.rows fs, v) :: l) = srcsOf (i + 1) l := by cases v <;> first | rfl | exact (hv ⟨_, rfl⟩).elim
        rw [e] at h
        obtain ⟨x, h1, h2⟩ := srcs_loc (l := l) h; exact ⟨x, List.mem_cons_of_mem _ h1, h2⟩

theorem claims_locs {h : Hand} {v : V} {L : Loc} (hL : L ∈ claims h v) : L ∈ v.locs := by
  cases h <;> first | exact hL | cases hL

theorem nodupL_pw {i : Nat} : ∀ {vs : List V} {k : Nat}, nodupL (locsL vs) = true → (entRows i k vs).Pairwise fun s s' => s.1.meets s'.1 = false
  | [], k, _ => by simp [entRows]
  | v :: vs, k, h => by
    simp only [locsL] at h
    obtain ⟨h1, h2⟩ := nodupL_app h
    simp only [entRows]
    refine List.pairwise_append.2 ⟨by cases v <;> simp [entRow], nodupL_pw h1, fun s hs s' hs' => h2 _ (entRow_loc hs) _ (entRows_loc hs')⟩

theorem srcs_pw : ∀ {l : List (Hand × V)} {i : Nat}, apart l = true → (srcsOf i l).Pairwise fun s s' => s.1.meets s'.1 = false
  | [], _, _ => by simp [srcsOf]
  | (hd, v) :: l, i, h => by
    simp only [apart, Bool.and_eq_true, List.all_eq_true] at h
    obtain ⟨⟨h1, h2⟩, h3⟩ := h
    have cross : ∀ (es : List Entr) (j : Nat), (∀ s ∈ es, s.1 ∈ claims hd v) → ∀ s ∈ es, ∀ s' ∈ srcsOf j l, s.1.meets s'.1 = false := by
      intro es j he s hs s' hs'
      obtain ⟨x, hx, hc⟩ := srcs_loc hs'
      exact nones_ok (h2 x hx).1 (he s hs) (claims_locs hc)
    cases hd with
    | lent _ => exact srcs_pw (l := l) h3
    | cells _ => exact srcs_pw (l := l) (i := i + 1) h3
    | row fs => exact List.pairwise_append.2 ⟨by cases v <;> simp [entRow], srcs_pw h3, cross _ _ fun s hs => entRow_loc hs⟩
    | rows fs =>
      by_cases hv : ∃ vs, v = .agg vs
      · obtain ⟨vs, rfl⟩ := hv
        exact List.pairwise_append.2 ⟨nodupL_pw h1, srcs_pw h3, cross _ _ fun s hs => entRows_loc hs⟩
      · have e : srcsOf i ((Hand.rows fs, v) :: l) = srcsOf (i + 1) l := by cases v <;> first | rfl | exact (hv ⟨_, rfl⟩).elim
        rw [e]
        exact srcs_pw (l := l) h3

theorem src_sub {d : Nat} : ∀ {l : List (Hand × V)} {ts : List T} {r : Roots} {y : Env × Roots × List Loc} {i k : Nat}, backs d k r l ts = some y → ∀ s ∈ srcsOf i l, s ∈ entsOf d i k l ts
  | [], _, _, _, _, _, _, s, hs => by cases hs
  | (hd, v) :: l, ts, r, y, i, k, h, s, hs => by
    cases hd with
    | lent fs => exact src_sub (l := l) h s hs
    | row fs =>
      cases ts with
      | nil => cases h
      | cons t ts =>
        simp only [backs] at h
        obtain ⟨x, h1, h⟩ := Option.bind_eq_some_iff.1 h
        obtain ⟨z, h2, _⟩ := Option.map_eq_some_iff.1 h
        exact (List.mem_append.1 hs).elim (fun h => List.mem_append_left _ h) fun h => List.mem_append_right _ (src_sub h2 s h)
    | rows fs =>
      cases v <;> try (cases ts <;> cases h; done)
      case agg vs =>
        cases ts with
        | nil => cases h
        | cons t ts =>
          cases t <;> try (cases h; done)
          case agg us =>
            simp only [backs] at h
            obtain ⟨x, h1, h⟩ := Option.bind_eq_some_iff.1 h
            obtain ⟨z, h2, _⟩ := Option.map_eq_some_iff.1 h
            exact (List.mem_append.1 hs).elim (fun h => List.mem_append_left _ h) fun h => List.mem_append_right _ (src_sub h2 s h)
    | cells fs =>
      cases v <;> try (cases ts <;> cases h; done)
      case bx b c =>
        cases ts with
        | nil => cases h
        | cons t ts =>
          cases t <;> try (cases h; done)
          case ptr cs =>
            simp only [backs] at h
            split at h
            · obtain ⟨r1, h1, h⟩ := Option.bind_eq_some_iff.1 h
              obtain ⟨z, h2, _⟩ := Option.map_eq_some_iff.1 h
              exact List.mem_append_right _ (src_sub (l := l) h2 s hs)
            · cases h

theorem handRow_loc {r : Roots} {f : Option Nat} {v : V} {t : T} (h : handRow r f v = some t) {L : Loc} (hL : L ∈ v.locs) (i k : Nat) : ∃ s ∈ entRow i k v, s.1 = L := by
  cases v with
  | sl M o n => simp only [V.locs, List.mem_singleton] at hL; subst hL; exact ⟨_, List.mem_cons_self, rfl⟩
  | val _ => cases hL
  | nil => cases hL
  | _ => cases h

theorem handRows_loc {r : Roots} {i : Nat} : ∀ {vs : List V} {fs : Fat} {ts : List T} {L : Loc} {k : Nat}, handRows r fs vs = some ts → L ∈ locsL vs → ∃ s ∈ entRows i k vs, s.1 = L
  | [], _, _, _, _, _, hL => by cases hL
  | v :: vs, fs, ts, L, k, h, hL => by
    simp only [handRows] at h
    obtain ⟨t, h1, h⟩ := Option.bind_eq_some_iff.1 h
    obtain ⟨us, h2, _⟩ := Option.map_eq_some_iff.1 h
    simp only [locsL, List.mem_append] at hL
    rcases hL with hL | hL
    · obtain ⟨s, e1, e2⟩ := handRow_loc h1 hL i k
      exact ⟨s, List.mem_append_left _ e1, e2⟩
    · obtain ⟨s, e1, e2⟩ := handRows_loc (k := k + 1) h2 hL
      exact ⟨s, List.mem_append_right _ e1, e2⟩

theorem src_cover : ∀ {l : List (Hand × V)} {i : Nat}, (∀ hd v, (hd, v) ∈ l → hd.own = true → ∃ e r b x, handA e r b hd v = some x) → ∀ hd v, (hd, v) ∈ l → hd.own = true → ∀ L ∈ v.locs, ∃ s ∈ srcsOf i l, s.1 = L
  | [], _, _, _, _, h, _, _, _ => by cases h
  | (hd0, v0) :: l, i, H, hd, v, hm, ho, L, hL => by
    have H' : ∀ hd v, (hd, v) ∈ l → hd.own = true → ∃ e r b x, handA e r b hd v = some x := fun hd v h => H hd v (List.mem_cons_of_mem _ h)
    have tail : ∀ (es : List Entr) (j : Nat), (hd, v) ∈ l → ∃ s ∈ es ++ srcsOf j l, s.1 = L := fun es j h => by
      obtain ⟨s, e1, e2⟩ := src_cover (i := j) H' hd v h ho L hL
      exact ⟨s, List.mem_append_right _ e1, e2⟩
    rcases List.mem_cons.1 hm with e | hm'
    · obtain ⟨rfl, rfl⟩ := Prod.mk.inj e
      obtain ⟨e, r, b, x, hx⟩ := H hd v List.mem_cons_self ho
      cases hd with
      | lent _ => cases ho
      | cells _ => cases ho
      | row fs =>
        simp only [handA] at hx
        obtain ⟨t, hx, _⟩ := Option.map_eq_some_iff.1 hx
        obtain ⟨s, e1, e2⟩ := handRow_loc hx hL i 0
        exact ⟨s, List.mem_append_left _ e1, e2⟩
      | rows fs =>
        cases v with
        | agg vs =>
          simp only [handA] at hx
          obtain ⟨t, hx, _⟩ := Option.map_eq_some_iff.1 hx
          obtain ⟨s, e1, e2⟩ := handRows_loc (i := i) (k := 0) hx hL
          exact ⟨s, List.mem_append_left _ e1, e2⟩
        | _ => cases hx
    · cases hd0 with
      | lent _ => exact tail [] i hm'
      | cells _ => exact tail [] (i + 1) hm'
      | row fs => exact tail _ _ hm'
      | rows fs => cases v0 <;> first | exact tail _ _ hm' | exact tail [] _ hm'

/-! New trees: their places, their values. -/
theorem impC_sh {t k : Nat} {x : T} {p : Key × Node} (h : p ∈ (impC t k x).2) : p.1.1 = t ∧ ((0, p.1.2), p.2) ∈ (impC 0 k x).2 := by
  cases x <;> first
    | (simp only [impC, List.mem_singleton] at h; subst h; exact ⟨rfl, List.mem_cons_self⟩)
    | (simp [impC] at h)

theorem impCs_sh {t : Nat} : ∀ {l : List T} {k : Nat} {p : Key × Node}, p ∈ (impCs t k l).2 → p.1.1 = t ∧ ((0, p.1.2), p.2) ∈ (impCs 0 k l).2
  | [], _, _, h => by simp [impCs] at h
  | x :: l, k, p, h => by
    simp only [impCs, List.mem_append] at h ⊢
    rcases h with h | h
    · obtain ⟨h1, h2⟩ := impC_sh h; exact ⟨h1, .inl h2⟩
    · obtain ⟨h1, h2⟩ := impCs_sh h; exact ⟨h1, .inr h2⟩

theorem impAs_sh {t : Nat} : ∀ {l : List T} {k : Nat} {p : Key × Node}, p ∈ (impAs t k l).2 → p.1.1 = t ∧ ((0, p.1.2), p.2) ∈ (impAs 0 k l).2
  | [], _, _, h => by simp [impAs] at h
  | x :: l, k, p, h => by
    cases x <;> (
      simp only [impAs, List.mem_append] at h ⊢
      rcases h with h | h
      · first
        | (obtain ⟨h1, h2⟩ := impC_sh h; exact ⟨h1, .inl h2⟩)
        | (obtain ⟨h1, h2⟩ := impCs_sh h; exact ⟨h1, .inl h2⟩)
      · obtain ⟨h1, h2⟩ := impAs_sh h; exact ⟨h1, .inr h2⟩)

theorem impRet_sh {t : Nat} {rs : List T} {p : Key × Node} (h : p ∈ (impRet t rs).r) : p.1.1 = t ∧ ((0, p.1.2), p.2) ∈ (impRet 0 rs).r := by
  match rs, h with
  | [], h => simp [impRet, impAs] at h
  | [x], h =>
    cases x <;> first
      | exact impCs_sh h
      | exact impAs_sh h
      | exact impC_sh h
  | x :: y :: l, h => exact impAs_sh (l := x :: y :: l) h

section
variable {C' : Ctx} {W' : World} {g' g'' : Gh} {D' : Key → Option Node} {b' b3 : List (Nat × Nat)} {r3 : Roots}

theorem retRoots {rs : List T} {v : Value} (h : RetOk g' D' b' W' 0 rs v) : ∀ p ∈ (impRet 0 rs).r, D' p.1 = some p.2 := by
  match rs, h with
  | [], h => intro p hp; simp [impRet, impAs] at hp
  | [x], h => exact impA_roots h
  | x :: y :: l, h =>
    obtain ⟨xs, _, h⟩ := h
    exact impAs_roots h

theorem newC (hf' : FInv C' (atF (foD [] D')) b' W' g') {x : T} {v : Value} {t k : Nat} {kd : Key} (hn : ∀ q ∈ (impC t k x).2, g''.hd ⟨0, q.1, []⟩ = g'.hd ⟨1, kd, []⟩) (hc : CellOk g' ⟨1, kd, []⟩ x v) (hD : D' kd = x.node .own) :
    VOk g'' (nR r3) b3 (impC t k x).1 v := by
  cases x with
  | val u => exact hc
  | nil => exact hc
  | arr ro es el =>
    have hk := hf'.node ⟨1, kd, []⟩ _ (atF_one hD rfl)
    have hh := hn _ List.mem_cons_self
    refine ⟨_, _, hc, fun n _ => ?_⟩
    show el.length ≤ _ ∧ 0 + _ = (g''.hd ⟨0, (t, k), []⟩).cap ∧ (_ → ∃ q o, (g''.hd ⟨0, (t, k), []⟩).a = some ⟨q, o, none⟩ ∧ _)
    rw [hh]
    refine ⟨hk.len, Nat.zero_add _, fun hc => ?_⟩
    obtain ⟨q, o, _, _, ha, _⟩ := hk.mem hc
    exact ⟨q, o, ha, by rw [Nat.zero_mul, Nat.add_zero]; exact ha⟩
  | _ => trivial

theorem newCs (hf' : FInv C' (atF (foD [] D')) b' W' g') {t i kk : Nat} : ∀ {ts : List T} {k : Nat} {xs : List Value}, kk ≤ k → CsOk g' D' i (k - kk) ts xs → (∀ q ∈ (impCs t k ts).2, g''.hd ⟨0, q.1, []⟩ = g'.hd ⟨1, (i, q.1.2 - kk), []⟩) →
    VsOk g'' (nR r3) b3 (impCs t k ts).1 xs
  | [], k, xs, _, hc, _ => hc
  | x :: ts, k, xs, hk, hc, hn => by
    obtain ⟨y, ys, rfl, h1, h2, h3⟩ := hc
    refine ⟨y, ys, rfl, newC hf' (kd := (i, k - kk)) (fun q hq => ?_) h1 h2, newCs hf' (by omega) (by rw [show k + 1 - kk = k - kk + 1 by omega]; exact h3) fun q hq => hn q (List.mem_append_right _ hq)⟩
    rw [hn q (List.mem_append_left _ hq)]
    cases x <;> first
      | (simp only [impC, List.mem_singleton] at hq; subst hq; rfl)
      | (simp [impC] at hq)

theorem newAs (hf' : FInv C' (atF (foD [] D')) b' W' g') {t i : Nat} : ∀ {ts : List T} {k : Nat} {xs : List Value}, AsOk g' D' i k ts xs → (∀ q ∈ (impAs t k ts).2, g''.hd ⟨0, q.1, []⟩ = g'.hd ⟨1, (i, q.1.2), []⟩) →
    VsOk g'' (nR r3) b3 (impAs t k ts).1 xs
  | [], k, xs, hc, _ => hc
  | x :: ts, k, xs, hc, hn => by
    cases x <;> first
      | (obtain ⟨ys, zs, rfl, h1, h2⟩ := hc
         refine ⟨_, zs, rfl, ⟨ys, rfl, newCs hf' (kk := 0) (Nat.zero_le _) h1 fun q hq => hn q (List.mem_append_left _ hq)⟩, newAs hf' h2 fun q hq => hn q (List.mem_append_right _ hq)⟩
         done)
      | (obtain ⟨y, zs, rfl, h1, h2, h3⟩ := hc
         refine ⟨y, zs, rfl, newC hf' (kd := (i, k)) (fun q hq => ?_) h1 h2, newAs hf' h3 fun q hq => hn q (List.mem_append_right _ hq)⟩
         rw [hn q (List.mem_append_left _ hq)]
         first
           | (simp only [impC, List.mem_singleton] at hq; subst hq; rfl)
           | (simp [impC] at hq))

theorem newA (hf' : FInv C' (atF (foD [] D')) b' W' g') {t i : Nat} {x : T} {v : Value} (h : AOk g' D' b' W' i x v) (hn : ∀ q ∈ (impA t 0 x).r, g''.hd ⟨0, q.1, []⟩ = g'.hd ⟨1, (i, q.1.2), []⟩) (hb : (impA t 0 x).b ≠ [] → g''.bx t = g'.bx i) :
    VOk g'' (nR r3) b3 (impA t 0 x).v v := by
  cases x with
  | fn f caps => obtain ⟨xs, rfl, h1⟩ := h; exact ⟨xs, rfl, newAs hf' h1 hn⟩
  | agg cs => obtain ⟨xs, rfl, h1⟩ := h; exact ⟨xs, rfl, newCs hf' (kk := 0) (Nat.le_refl _) h1 hn⟩
  | ptr cs =>
    obtain ⟨xs, q, o, rfl, h1, _⟩ := h
    exact ⟨_, rfl, fun m _ => by rw [hb (by simp [impA]), h1, Nat.add_zero]⟩
  | _ =>
    refine newC hf' (kd := (i, 0)) (fun q hq => ?_) h.1 h.2
    rw [hn q hq]
    first
      | (simp only [impC, List.mem_singleton] at hq; subst hq; rfl)
      | (simp [impC] at hq)

theorem newRet (hf' : FInv C' (atF (foD [] D')) b' W' g') {t : Nat} {rs : List T} {v : Value} (h : RetOk g' D' b' W' 0 rs v) (hn : ∀ q ∈ (impRet t rs).r, g''.hd ⟨0, q.1, []⟩ = g'.hd ⟨1, (0, q.1.2), []⟩) (hb : (impRet t rs).b ≠ [] → g''.bx t = g'.bx 0) :
    VOk g'' (nR r3) b3 (impRet t rs).v v := by
  match rs, h with
  | [], h => obtain ⟨xs, rfl, h'⟩ := h; exact ⟨xs, rfl, newAs hf' h' hn⟩
  | [x], h => exact newA hf' h hn hb
  | x :: y :: l, h => obtain ⟨xs, rfl, h'⟩ := h; exact ⟨xs, rfl, newAs hf' h' hn⟩

/-- A returned variable. -/
theorem retBox {t : Nat} {rs : List T} : ((impRet t rs).b = [] ∧ (impRet t rs).e = []) ∨ ∃ cs, rs = [.ptr cs] ∧ (impRet t rs).b = [(t, cs.length)] ∧ (impRet t rs).e = slots t 0 (impCs t 0 cs).1 := by
  match rs with
  | [] => exact .inl ⟨rfl, rfl⟩
  | [x] => cases x <;> first | exact .inl ⟨rfl, rfl⟩ | exact .inr ⟨_, rfl, rfl, rfl⟩
  | x :: y :: l => exact .inl ⟨rfl, rfl⟩

end
end Go.Proofs.Ytekfjbejfondnaa.Tom
/-! A call's end, put together. -/
namespace Go.Proofs.Ytekfjbejfondnaa.Tom
open Go

theorem newBoxes_app : ∀ {lst b b' : List (Nat × Nat)}, newBoxes b lst = some b' → b' = lst ++ b ∧ ∀ p ∈ lst, getB b p.1 = none
  | [], b, b', h => by obtain rfl := Option.some.inj h; exact ⟨rfl, by simp⟩
  | (d, n) :: lst, b, b', h => by
    simp only [newBoxes] at h
    obtain ⟨b1, h1, h2⟩ := Option.bind_eq_some_iff.1 h
    obtain ⟨rfl, i2⟩ := newBoxes_app h1
    unfold newBox at h2
    split at h2
    · rename_i hn
      obtain rfl := Option.some.inj h2
      have hn' : getB (lst ++ b) d = none := by simpa using hn
      refine ⟨rfl, fun p hp => ?_⟩
      rcases List.mem_cons.1 hp with rfl | hp
      · clear i2 hn h1 h h2 hp
        induction lst with
        | nil => exact hn'
        | cons x lst ih =>
          obtain ⟨a, m⟩ := x
          simp only [List.cons_append, getB] at hn'
          split at hn'
          · cases hn'
          · exact ih hn'
      · exact i2 p hp
    · cases h2

theorem hit_boxes {l : List (Nat × Nat)} {d m : Nat} (h : (d, m) ∈ l) (p : List Loc) : hit (p ++ boxesOf l) (boxLoc d) = true := by
  rw [hit_append, Bool.or_eq_true]
  exact .inr (hit_mem (p := boxesOf l) (L := boxLoc d) (List.mem_map.2 ⟨_, h, rfl⟩) rfl rfl)

theorem hit_left {p q : List Loc} {M : Loc} (h : hit (p ++ q) M = false) : hit p M = false := by
  rw [hit_append, Bool.or_eq_false_iff] at h
  exact h.1

section
variable {C : Ctx} {S : St} {W W' : World} {g g1 : Gh} {tm : Nat → Value} {r1 : Roots} {D1 : Key → Option Node} {l : List (Hand × V)} {as : List T} {xs : List Value} {d : Nat} {out : Out} {rs bs : List T} {e : Ending}

theorem call_end (h : Inv C S W g tm) (hf : FInv C (atF (foD r1 D1)) S.b W g1) (hbx : g1.bx = g.bx) (hz : ∀ L, L.z = 0 → g1.hd L = g.hd L) (hle : Less S.r r1) (hh : Handed S W g g1 r1 D1 l as xs)
    (hV : VsOk g1 (atF (foD r1 D1)) S.b (l.map (·.2)) xs) (hp : Post (enterC C.N0 W (atF (foD [] (entD l as D1))) (ptrB 0 l) (entG l xs g1)) (sigL 0 l) as xs rs bs e W') (hout : outCall d r1 S.b l (rs, bs) = some out) :
    ∃ v g'', e = .returned v ∧ VOk g'' (nR out.r) out.b out.v v ∧ Inv C ⟨out.e ++ bar out.p S.e, out.r, out.b⟩ W' g'' tm := by
  obtain ⟨v, g', D', b', he, hf', hnl, hR, hB⟩ := hp
  simp only [outCall] at hout
  obtain ⟨⟨e1, r2, p1⟩, hbk, hout⟩ := Option.bind_eq_some_iff.1 hout
  obtain ⟨r3, hr3, hout⟩ := Option.bind_eq_some_iff.1 hout
  obtain ⟨b3, hb3, hout⟩ := Option.map_eq_some_iff.1 hout
  subst hout
  simp only at hr3 hb3
  obtain ⟨a1, a2, a3, a4, a5⟩ := backs_all hh hV hbx l 0 1 100 bs r1 r2 e1 p1 (fun i => by rw [Nat.zero_add]) hh.nd hB hbk
  have hkey : ∀ s ∈ srcsOf 1 l, (getR r1 s.1.key).isSome = true := fun s hs => by
    obtain ⟨m, hm⟩ := (a2 s hs).node
    unfold nodeAt at hm
    cases e : getR r1 s.1.key with
    | none => rw [e] at hm; cases hm
    | some _ => rfl
  have G1 := backs_gave hbk a1 hkey (srcs_pw hh.ap)
  obtain ⟨er, fr, pr⟩ := newRoots_app hr3
  have hret : ∀ q ∈ (impRet d rs).r, q.1.1 = d ∧ D' (0, q.1.2) = some q.2 := fun q hq => by
    obtain ⟨h1, h2⟩ := impRet_sh hq
    exact ⟨h1, retRoots hR _ h2⟩
  have G2 := newRoots_gave (D := D') (d := d) hr3 (fun q => (0, q.2)) (fun q hq => (hret q hq).1) (fun q hq => (hret q hq).2)
  have G := G1.comp G2 hkey (by simp) (by simp)
  rw [List.append_nil] at G
  obtain ⟨k1, k2⟩ := ents_kd (d := d) (l := l) (ts := bs) (i := 1) (k := 100)
  have hFin : CallFin r1 r3 D' g1 g' d (srcsOf 1 l) (entsOf d 1 100 l bs ++ (impRet d rs).r.map fun p => ((⟨p.1, []⟩ : Loc), ((0, p.1.2) : Key))) (p1 ++ keysOf (impRet d rs).r) := by
    refine ⟨G, List.pairwise_append.2 ⟨k2, List.pairwise_map.2 (List.Pairwise.imp_of_mem (R := fun p p' => p.1 ≠ p'.1) (fun {p p'} hp hp' hne e => ?_) pr), fun s hs s' hs' e => ?_⟩, a2, fun s hs => List.mem_append_left _ (src_sub hbk s hs)⟩
    · simp only [Prod.mk.injEq, true_and] at e
      exact hne (Prod.ext ((hret p hp).1.trans (hret p' hp').1.symm) e)
    · obtain ⟨q, _, rfl⟩ := List.mem_map.1 hs'
      have := k1 s hs
      rw [e] at this
      simp only at this
      omega
  generalize hE : (entsOf d 1 100 l bs ++ (impRet d rs).r.map fun p => ((⟨p.1, []⟩ : Loc), ((0, p.1.2) : Key))) = E at hFin
  have hnewhd : ∀ (k kd : Key), ((⟨k, []⟩, kd) : Entr) ∈ E → getR r1 k = none → (endG g1 g' S.b (srcsOf 1 l) E).hd ⟨0, k, []⟩ = g'.hd ⟨1, kd, []⟩ := by
    intro k kd hm hn
    exact hFin.hdin (s := (⟨k, []⟩, kd)) hm (q := []) (fun _ hs => by have := hkey _ hs; rw [hn] at this; cases this)
  -- boxes
  obtain ⟨eb, fb⟩ := newBoxes_app hb3
  have hbox : ∀ d' m, getB b3 d' = some m → (getB S.b d' = none ∧ d' = d ∧ ∃ cs, rs = [.ptr cs] ∧ m = cs.length) ∨ getB S.b d' = some m := by
    intro d' m hm
    rw [eb] at hm
    rcases retBox (t := d) (rs := rs) with ⟨e1, _⟩ | ⟨cs, e1, e2, _⟩
    · rw [e1] at hm; exact .inr hm
    · rw [e2] at hm fb
      simp only [List.cons_append, List.nil_append, getB] at hm
      split at hm
      · rename_i hd
        subst hd
        exact .inl ⟨fb _ List.mem_cons_self, rfl, cs, e1, (Option.some.inj hm).symm⟩
      · exact .inr hm
  have hptr : ∀ cs, rs = [.ptr cs] → ∃ ys q o, g'.bx 0 = (q, o) ∧ getB b' 0 = some cs.length ∧ (∀ (j : Nat) (v : Value), ys[j]? = some v → W'.cell? ⟨q, o + j, none⟩ = some v) ∧ CsOk g' D' 0 0 cs ys := by
    rintro cs rfl
    obtain ⟨ys, q, o, _, h1, h2, h3, h4⟩ := hR
    exact ⟨ys, q, o, h1, h2, h3, h4⟩
  have hcov : ∀ (M : Loc), (∀ s ∈ E, ¬ Under s.1 M) → ∀ (t : Nat) (hd : Hand) (v : V), l[t]? = some (hd, v) → hd.own = true → ∀ L ∈ v.locs, ¬ (M.key = L.key ∧ L.path <+: M.path) := by
    intro M hM t hd v hl ho L hL hu
    obtain ⟨s, hs, rfl⟩ := src_cover (i := 1) (l := l) (fun hd v hm ho => by
      obtain ⟨t, ht, e⟩ := List.mem_iff_getElem.1 hm
      obtain ⟨a, r', _, hA⟩ := hh.hA t hd v (by rw [List.getElem?_eq_getElem ht, e]) ho
      exact ⟨_, _, _, _, hA⟩) hd v (List.mem_of_getElem? hl) ho L hL
    exact hM s (hFin.sub s hs) hu
  obtain ⟨o1, o2⟩ := enter_own hf (entφ l) (entσ l) (hh.H hf) hh.B'
  have hF : FInv C (nR r3) b3 W' (endG g1 g' S.b (srcsOf 1 l) E) := by
    refine hf.merge hf' rfl rfl o1 o2 hnl (endφ E) (fun L n'' hn => ?_) (fun L L' n n' hn hn' _ he => ?_) (fun d' => if getB S.b d' = none then some 0 else boxIdx 1 l d') (fun d' m hm => ?_) (fun d1 d2 t m m' hm hm' ht ht' => ?_)
    · obtain ⟨z, k, p⟩ := L
      have hz0 : z = 0 := Classical.byContradiction fun hne => by
        unfold nR atF foR at hn
        simp only at hn
        rw [if_neg hne] at hn; cases hn
      subst hz0
      rcases hFin.nodes (b := S.b) hf hf' ⟨k, p⟩ n'' hn with ⟨c1, c2, n, c3, c4, c5⟩ | ⟨s, hs, q, m, n, c1, c2, c3, c4, c5, c6⟩
      · rw [show (⟨0, k, p⟩ : GLoc) = Loc.g ⟨k, p⟩ from rfl, c1]
        exact .inl ⟨rfl, n, c3, c4.ro, c5, fun q hq => hh.kept hf c3 (hcov ⟨k, p⟩ c2) q hq⟩
      · rw [show (⟨0, k, p⟩ : GLoc) = Loc.g ⟨k, p⟩ from rfl, c4]
        exact .inr ⟨rfl, n, atF_one c2 c3, c5.ro, c6⟩
    · have zz : ∀ {L : GLoc} {n : Node}, nR r3 L = some n → L.z = 0 := by
        intro L n hn
        refine Classical.byContradiction fun hne => ?_
        unfold nR atF foR at hn
        rw [if_neg hne] at hn; cases hn
      obtain ⟨z, k, p⟩ := L
      obtain ⟨z', k', p'⟩ := L'
      obtain rfl : z = 0 := zz hn
      obtain rfl : z' = 0 := zz hn'
      have := hFin.inj (M := ⟨k, p⟩) (M' := ⟨k', p'⟩) hn hn' he
      simp only [Loc.mk.injEq] at this
      rw [this.1, this.2]
    · rcases hbox d' m hm with ⟨hn, rfl, cs, e1, rfl⟩ | ho
      · obtain ⟨ys, q, o, f1, f2, _⟩ := hptr cs e1
        refine .inr (.inr ⟨0, by simp [hn], f2, by simp [endG, hn]⟩)
      · have hne : getB S.b d' ≠ none := by rw [ho]; simp
        rw [show (if getB S.b d' = none then some 0 else boxIdx 1 l d') = boxIdx 1 l d' from if_neg hne]
        cases hi : boxIdx 1 l d' with
        | none => exact .inl ⟨rfl, ho, by simp [endG, hne], hh.keptBox hf ho (boxIdx_none hi)⟩
        | some t =>
          obtain ⟨t0, fs, c, cs, ys, kk, q1, q2, q3, q4, q5, q6, q7, q8⟩ := a5 d' t hi
          refine .inr (.inl ⟨t, fs.length, rfl, ho, by simp [endG, hne], q3, by rw [q4], fun i hi => ?_⟩)
          obtain ⟨k, hk, e⟩ := hh.boxOwn hf q1 i hi
          exact ⟨k, hk, by rw [q4, e]⟩
    · split at ht <;> split at ht'
      · rename_i e1 e2
        rcases hbox d1 m hm with ⟨_, rfl, _⟩ | ho
        · rcases hbox d2 m' hm' with ⟨_, rfl, _⟩ | ho
          · rfl
          · rw [e2] at ho; cases ho
        · rw [e1] at ho; cases ho
      · have := boxIdx_ge ht'; have := Option.some.inj ht; omega
      · have := boxIdx_ge ht; have := Option.some.inj ht'; omega
      · exact boxIdx_inj ht ht'
  -- what is not poisoned
  have mv : ∀ u x, VOk g (nR S.r) S.b u x → VOk (endG g1 g' S.b (srcsOf 1 l) E) (nR r3) b3 (pois (p1 ++ keysOf (impRet d rs).r ++ boxesOf (impRet d rs).b) u) x := by
    intro u x hx
    refine VOk.move (fun L n' hn hit0 => ?_) (fun d' m' hm hit0 => ?_) u x hx
    · have hit1 := hit_left hit0
      rcases hFin.nodes (b := S.b) hf hf' L n' hn with ⟨c1, c2, n, c3, c4, c5⟩ | ⟨s, hs, q, m, n, rfl, c2, c3, c4, c5, c6⟩
      · obtain ⟨n0, f1, f2⟩ := hle L n c3
        exact ⟨n0, f1, c4.es.trans f2.es, by rw [endG_out c2, hz _ rfl]⟩
      · have hrow := (hf'.node ⟨1, s.2, []⟩ m (atF_one c2 rfl)).rows
        obtain ⟨rfl, hss⟩ := G.pois s (by rw [hE]; exact hs) q m n c2 c3 hrow hit1
        obtain ⟨n1, m1, f1, f2, f3, _⟩ := G.srcE s (by rw [hE]; exact hs) hss
        rw [c2] at f2
        obtain rfl := Option.some.inj f2
        obtain rfl := Option.some.inj c3
        obtain ⟨n0, f4, f5⟩ := hle _ n1 f1
        rw [List.append_nil]
        exact ⟨n0, f4, c5.es.trans (f3.trans f5.es), by rw [show (⟨s.1.key, s.1.path⟩ : Loc) = s.1 from rfl, endG_src hss, hz _ rfl]⟩
    · rcases hbox d' m' hm with ⟨hn, rfl, cs, e1, rfl⟩ | ho
      · exfalso
        have : (d', cs.length) ∈ (impRet d' rs).b := by rw [e1]; exact List.mem_cons_self
        rw [hit_boxes this] at hit0
        cases hit0
      · exact ⟨m', ho, by simp [endG, ho, hbx]⟩
  have hnewRet : ∀ q ∈ (impRet d rs).r, (endG g1 g' S.b (srcsOf 1 l) E).hd ⟨0, q.1, []⟩ = g'.hd ⟨1, (0, q.1.2), []⟩ := by
    intro q hq
    refine hnewhd _ _ (by rw [← hE]; exact List.mem_append_right _ (List.mem_map.2 ⟨q, hq, rfl⟩)) (noneMono G1.mono (fr q hq))
  refine ⟨v, endG g1 g' S.b (srcsOf 1 l) E, he, newRet hf' hR hnewRet (fun hne => ?_), hF, fun t => ?_, fun d' m c x hm hc hx => ?_⟩
  · rcases retBox (t := d) (rs := rs) with ⟨e1, _⟩ | ⟨cs, e1, e2, _⟩
    · exact (hne e1).elim
    · rw [e2] at fb
      have := fb _ List.mem_cons_self
      simp only at this
      simp [endG, this]
  · have e0 : lk ((impRet d rs).e ++ e1 ++ bar (p1 ++ keysOf (impRet d rs).r ++ boxesOf (impRet d rs).b) S.e) (t, 0) = pois (p1 ++ keysOf (impRet d rs).r ++ boxesOf (impRet d rs).b) (lk S.e (t, 0)) := by
      rw [List.append_assoc]
      rcases retBox (t := d) (rs := rs) with ⟨_, e2⟩ | ⟨cs, _, _, e2⟩ <;> rw [e2]
      · rw [List.nil_append, a3, lk_bar]
      · rw [lk_slots, if_neg (by simp), a3, lk_bar]
    simp only [e0]
    exact mv _ _ (h.e t)
  · simp only at hm ⊢
    rw [List.append_assoc]
    rcases hbox d' m hm with ⟨hn, rfl, cs, e1', rfl⟩ | ho
    · obtain ⟨ys, q, o, f1, f2, f3, f4⟩ := hptr cs e1'
      have hsl : (impRet d' rs).e = slots d' 0 (impCs d' 0 cs).1 := by rw [e1']; rfl
      rw [hsl, lk_slots, if_pos ⟨rfl, by simp, by simp only [impCs_len]; omega⟩]
      have hv := newCs (g'' := endG g1 g' S.b (srcsOf 1 l) E) (r3 := r3) (b3 := b3) hf' (t := d') (i := 0) (kk := 0) (k := 0) (Nat.le_refl _) f4 (fun q hq => hnewRet q (by rw [e1']; exact hq))
      obtain ⟨u, hu⟩ : ∃ u, (impCs d' 0 cs).1[c]? = some u := ⟨_, List.getElem?_eq_getElem (by rw [impCs_len]; exact hc)⟩
      obtain ⟨y, e4, e5⟩ := hv.get c u hu
      have hcell := f3 c y e4
      have hbx' : (endG g1 g' S.b (srcsOf 1 l) E).bx d' = (q, o) := by simp [endG, hn, f1]
      rw [hbx'] at hx
      rw [hcell] at hx
      obtain rfl := Option.some.inj hx
      rw [List.getD_eq_getElem?_getD]
      simp only [Nat.add_sub_cancel, Nat.sub_zero]
      rw [hu]
      exact e5
    · have hne : getB S.b d' ≠ none := by rw [ho]; simp
      have hbx' : (endG g1 g' S.b (srcsOf 1 l) E).bx d' = g1.bx d' := by simp [endG, hne]
      have hsl : ∀ rest, lk ((impRet d rs).e ++ rest) (d', c + 1) = lk rest (d', c + 1) := by
        intro rest
        rcases retBox (t := d) (rs := rs) with ⟨_, e2⟩ | ⟨cs, _, e3, e2⟩ <;> rw [e2]
        · rfl
        · rw [lk_slots, if_neg]
          rintro ⟨rfl, _⟩
          rw [e3] at fb
          exact hne (fb _ List.mem_cons_self)
      rw [hsl]
      rw [hbx'] at hx
      have old : W.cell? ⟨(g1.bx d').1, (g1.bx d').2 + c, none⟩ = some x → VOk (endG g1 g' S.b (srcsOf 1 l) E) (nR r3) b3 (pois (p1 ++ keysOf (impRet d rs).r ++ boxesOf (impRet d rs).b) (lk S.e (d', c + 1))) x := by
        intro hx
        rw [hbx] at hx
        exact mv _ _ (h.c d' m c x ho hc hx)
      cases hi : boxIdx 1 l d' with
      | none =>
        rw [a4 d' hi, lk_bar]
        refine old ?_
        have := hf'.fr.block (g1.bx d').1 (by exact hf.boxlt d' m ho) (hh.keptBox hf ho (boxIdx_none hi))
        exact (cell_of_heap (i := (g1.bx d').2 + c) this).symm.trans hx
      | some i =>
        obtain ⟨t0, fs, c0, cs, ys, kk, q1, q2, q3, q4, q5, q6, q7, q8⟩ := a5 d' i hi
        rw [q7]
        split
        · rename_i hcc
          have hv := newCs (g'' := endG g1 g' S.b (srcsOf 1 l) E) (r3 := r3) (b3 := b3) hf' (t := d) (i := i) (kk := kk) (k := kk) (Nat.le_refl _) (by rw [Nat.sub_self]; exact q5) (fun q hq => hnewhd _ _ (by rw [← hE]; exact List.mem_append_left _ (q8 q hq).1) (q8 q hq).2)
          obtain ⟨u, hu⟩ : ∃ u, (impCs d kk cs).1[c - c0]? = some u := ⟨_, List.getElem?_eq_getElem (by rw [impCs_len, q2]; omega)⟩
          obtain ⟨y, e4, e5⟩ := hv.get (c - c0) u hu
          have hcell := q6 (c - c0) y e4
          rw [show (g1.bx d').2 + c0 + (c - c0) = (g1.bx d').2 + c by omega, hx] at hcell
          obtain rfl := Option.some.inj hcell
          rw [List.getD_eq_getElem?_getD, show c + 1 - 1 - c0 = c - c0 by omega, hu]
          exact e5
        · rename_i hcc
          rw [lk_bar]
          refine old ?_
          have := hf'.fr.cell (g1.bx d').1 ((g1.bx d').2 + c) (by exact hf.boxlt d' m ho) (fun ho' => ?_)
          · exact this.symm.trans hx
          · obtain ⟨k, hk, e⟩ := hh.boxOwn hf q1 _ ho'
            omega

end
end Go.Proofs.Ytekfjbejfondnaa.Tom
/-! Calls, from their beginning to their end. -/
namespace Go.Proofs.Ytekfjbejfondnaa.Tom
open Go

/-- What an operation gives, a call too. -/
def OStep (P : Program) (C : Ctx) (S : St) (W : World) (tm : Nat → Value) (o : Oper) (a : Act) (out : Out) : Prop :=
  ∀ (next : Act → World → Prop) (Q : Exit → Act → World → Prop), (∀ v W' g', VOk g' (nR out.r) out.b out.v v → Inv C ⟨out.e ++ bar out.p S.e, out.r, out.b⟩ W' g' tm → next (a.put o.dst v) W') → o.wp P a W next Q

theorem Step.ostep {P : Program} {C : Ctx} {S : St} {W : World} {tm : Nat → Value} {o : Oper} {a : Act} {out : Out} (ha : a.eval = evalT tm) (h : Step P C S W tm o out) : OStep P C S W tm o a out := by
  intro next Q hn
  obtain ⟨nx, v, W', g', h1, h2, h3, h4⟩ := h
  unfold Oper.wp
  rw [ha, h1]
  rcases h2 with rfl | ⟨rfl, rfl⟩
  · exact hn v W' g' h3 h4
  · exact hn _ W' g' h3 h4

def sigH : Nat → List Hand → List (Nat × Nat)
  | _, [] => []
  | t, .lent _ :: l => sigH (t + 1) l
  | t, .row _ :: l => (t, 1) :: sigH (t + 1) l
  | t, .rows _ :: l => (t, 2) :: sigH (t + 1) l
  | t, .cells _ :: l => (t, 3) :: sigH (t + 1) l

theorem sigL_nil : ∀ (vs : List V) (t : Nat), sigL t (hands [] vs) = []
  | [], _ => rfl
  | v :: vs, t => by simp only [hands, sigL]; exact sigL_nil vs (t + 1)

theorem sigL_hands : ∀ (hs : List Hand) (vs : List V) (t : Nat), hs.length ≤ vs.length → sigL t (hands hs vs) = sigH t hs
  | [], vs, t, _ => sigL_nil vs t
  | h :: hs, [], t, hl => by simp at hl
  | h :: hs, v :: vs, t, hl => by
    have := sigL_hands hs vs (t + 1) (by simpa using hl)
    cases h <;> simp only [hands, sigL, sigH, this]

theorem hands_snd : ∀ (hs : List Hand) (vs : List V), (hands hs vs).map (·.2) = vs
  | _, [] => rfl
  | [], v :: vs => by simp only [hands, List.map_cons, hands_snd [] vs]
  | h :: hs, v :: vs => by simp only [hands, List.map_cons, hands_snd hs vs]

section
variable {P : Program} {F : Fun} {C : Ctx} {S : St} {W : World} {g : Gh} {tm : Nat → Value} {o : Oper} {d : Nat} {out : Out} {sig : Nat → List (Nat × Nat)}

theorem doCall_ok (hS : Sat P sig F) (h : Inv C S W g tm) {f : Nat} {l : List (Hand × V)} {xs : List Value} (hv : VsOk g (nR S.r) S.b (l.map (·.2)) xs) (hsig : sig f = sigL 0 l) (hc : doCall F d S.e S.r S.b f l = some out) :
    Calls P f xs.toArray W fun e W' => ∃ v g', e = .returned v ∧ VOk g' (nR out.r) out.b out.v v ∧ Inv C ⟨out.e ++ bar out.p S.e, out.r, out.b⟩ W' g' tm := by
  unfold doCall at hc
  split at hc
  · rename_i hap
    simp only [Bool.and_eq_true] at hap
    obtain ⟨⟨opts, r1⟩, hp, hc⟩ := Option.bind_eq_some_iff.1 hc
    obtain ⟨as, hr, hc⟩ := Option.bind_eq_some_iff.1 hc
    obtain ⟨⟨rs, bs⟩, hf, hc⟩ := Option.bind_eq_some_iff.1 hc
    obtain ⟨g1, D1, i1, i2, i3, i5, hh⟩ := handed_ok h hap.1 hap.2 hv hp hr
    have hV : VsOk g1 (atF (foD r1 D1)) S.b (l.map (·.2)) xs := hv.same (fun L n' hn => by
      obtain ⟨m1, e1, e2⟩ := i5 L n' hn
      exact ⟨m1, e1, e2.es, i3 _ rfl⟩) (fun d m hd => ⟨m, hd, by rw [i2]⟩)
    refine (hS f as rs bs hf (enterC C.N0 W (atF (foD [] (entD l as D1))) (ptrB 0 l) (entG l xs g1)) _ _ _ xs (hh.enter i1) (hh.args i2)).mono fun e W' hpost => ?_
    rw [hsig] at hpost
    exact call_end h i1 i2 i3 i5 hh hV hpost hc
  · cases hc

def fnB (P : Program) (f : Nat) : Bool := match P.funcs[f]? with | some fn => !(fn.name == "runtime.NumGoroutine") && fn.body.isSome | none => false

theorem fnB_ok {f : Nat} (h : fnB P f = true) (args : Array Value) (W : World) : (callFunc f args).run P W = .ok (.enter f args) W := by
  unfold fnB at h
  split at h
  · rename_i fn hf
    simp only [Bool.and_eq_true, Bool.not_eq_true'] at h
    have h2 : fn.body.isNone = false := by cases e : fn.body <;> simp_all
    have e0 : (program).run P W = .ok P W := rfl
    unfold callFunc
    rw [Sem.run_bind, e0]
    simp only [Result.andThen_ok, hf, h.1, h2, Bool.false_eq_true, if_false]
    rfl
  · cases h

def callFB (P : Program) (sig : Nat → List (Nat × Nat)) (f : Nat) (hs : List Hand) (xs : List Opd) : Op → Bool
  | .call c => (match c.callee with | .value (.func k) => k == f | _ => false) && opdL c.args.toList xs && fnB P f && decide (hs.length ≤ xs.length) && decide (sig f = sigH 0 hs)
  | _ => false

def callVB (P : Program) (sig : Nat → List (Nat × Nat)) (fs : List Nat) (hs : List Hand) (x : Opd) (xs : List Opd) : Op → Bool
  | .call c => (match c.callee with | .value y => opdB y x | _ => false) && opdL c.args.toList xs && decide (hs.length ≤ xs.length) && (fs.all fun f => fnB P f && decide (sig f = sigH 0 hs))
  | _ => false

theorem enter_ok {a : Act} (ha : a.eval = evalT tm) {f : Nat} {xs : List Value} (hrun : (execOp (evalT tm) o).run P W = .ok (.enter f xs.toArray) W)
    (hC : Calls P f xs.toArray W fun e W' => ∃ v g', e = .returned v ∧ VOk g' (nR out.r) out.b out.v v ∧ Inv C ⟨out.e ++ bar out.p S.e, out.r, out.b⟩ W' g' tm) : OStep P C S W tm o a out := by
  intro next Q hn
  unfold Oper.wp
  rw [ha, hrun, Oper.upon_enter]
  refine hC.mono fun e W' he => ?_
  obtain ⟨v, g', rfl, h1, h2⟩ := he
  exact hn v W' g' h1 h2

theorem call_ok (hS : Sat P sig F) (h : Inv C S W g tm) {a : Act} (hae : a.eval = evalT tm) {f : Nat} {hs : List Hand} {xs : List Opd} (hp : callFB P sig f hs xs o.op = true) (ha : act F d S.e S.r S.b (.call f hs xs) = some out) : OStep P C S W tm o a out := by
  obtain ⟨dst, oop, ty, pos, after, guard⟩ := o
  unfold callFB at hp
  split at hp
  · rename_i c e; simp only at e; subst e
    simp only [Bool.and_eq_true, decide_eq_true_eq] at hp
    obtain ⟨⟨⟨⟨h1, h2⟩, h3⟩, h4⟩, h5⟩ := hp
    split at h1
    · rename_i k hk
      obtain rfl : k = f := by simpa using h1
      have hx := opds_ok h h2
      refine enter_ok hae (xs := c.args.toList.map (evalT tm)) ?_ (doCall_ok hS h (by rw [hands_snd]; exact hx) (by rw [sigL_hands _ _ _ (by simpa using h4)]; exact h5) ha)
      have e1 : (evalT tm (.func k)) = .func (.func k) #[] #[] := rfl
      simp only [execOp, resolve, hk, e1, Deferred.ofValue, Sem.run_bind, Sem.run_pure, Result.andThen_ok, invoke]
      rw [fnB_ok h3]
      congr 2
      apply Array.ext'
      simp
    · cases h1
  · cases hp

theorem callv_ok (hS : Sat P sig F) (h : Inv C S W g tm) {a : Act} (hae : a.eval = evalT tm) {fs : List Nat} {hs : List Hand} {x : Opd} {xs : List Opd} (hp : callVB P sig fs hs x xs o.op = true) (ha : act F d S.e S.r S.b (.callv fs hs x xs) = some out) : OStep P C S W tm o a out := by
  obtain ⟨dst, oop, ty, pos, after, guard⟩ := o
  unfold callVB at hp
  split at hp
  · rename_i c e; simp only at e; subst e
    simp only [Bool.and_eq_true, decide_eq_true_eq, List.all_eq_true] at hp
    obtain ⟨⟨⟨h1, h2⟩, h4⟩, h5⟩ := hp
    split at h1
    · rename_i y hk
      have hx := opds_ok h h2
      have hy := opd_ok h h1
      simp only [act, onFn] at ha
      split at ha
      · rename_i f caps hfv
        rw [hfv] at hy
        split at ha
        · rename_i hmem
          obtain ⟨ys, hyv, hys⟩ := hy
          obtain ⟨h6, h7⟩ := h5 f (by simpa using hmem)
          have hxs : VsOk g (nR S.r) S.b (xs.map (·.ev S.e) ++ caps) (c.args.toList.map (evalT tm) ++ ys) := vs_app hx hys
          refine enter_ok hae (xs := c.args.toList.map (evalT tm) ++ ys) ?_ (doCall_ok hS h (by rw [hands_snd]; exact hxs) (by rw [sigL_hands _ _ _ (by simp; omega)]; exact h7) ha)
          simp only [execOp, resolve, hk, hyv, Deferred.ofValue, Sem.run_bind, Sem.run_pure, Result.andThen_ok, invoke]
          rw [fnB_ok h6]
          congr 2
          apply Array.ext'
          simp
        · cases ha
      · cases ha
    · cases h1
  · cases hp
where
  vs_app {g : Gh} {fo : NSet} {b : List (Nat × Nat)} : ∀ {l m : List V} {xs ys : List Value}, VsOk g fo b l xs → VsOk g fo b m ys → VsOk g fo b (l ++ m) (xs ++ ys)
    | [], m, xs, ys, h, k => by simp only [VsOk] at h; subst h; exact k
    | v :: l, m, xs, ys, h, k => by
      obtain ⟨x, zs, rfl, h1, h2⟩ := h
      exact ⟨x, zs ++ ys, rfl, h1, vs_app h2 k⟩

end
end Go.Proofs.Ytekfjbejfondnaa.Tom
