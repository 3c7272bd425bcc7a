/- What the functions of this group answer. -/
import Derived.Test.YtekfjbejfondnaaKc0
import Derived.Test.YtekfjbejfondnaaKf
import Derived.Test.YtekfjbejfondnaaProg
import Derived.KernelRfl
/-! Handles: what the small functions of this group answer. -/
namespace Go.Proofs.Ytekfjbejfondnaa.Tom
open Go

abbrev SlotL := List (Int × Bool × Int)
def row1 (s : Int × Bool × Int) : List T := [.val (.int .i64 s.1), .val (.bool s.2.1), .val (.int .i64 s.2.2)]
def rowsL (l : SlotL) : List (List T) := l.map row1
abbrev vi (n : Int) : T := .val (.int .i64 n)
abbrev vb (b : Bool) : T := .val (.bool b)

theorem l1In_eq (n lo hi : Int) : FF 55 [vi n, vi lo, vi hi] = some ([vb (decide (lo ≤ n) && decide (n ≤ hi))], []) := by
  rw [D_55 _ rfl, C_spec_l1In]
  simp -implicitDefEqProofs
  by_cases h : lo ≤ n <;> simp -implicitDefEqProofs [h]

theorem within_eq (n lo hi : Int) : FF 56 [vi n, vi lo, vi hi] = some ([vb (decide (lo ≤ n) && decide (n ≤ hi))], []) := by
  rw [D_56 _ rfl, C_impl_within]
  simp -implicitDefEqProofs
  by_cases h : lo ≤ n <;> simp -implicitDefEqProofs [h]

theorem toHandle_eq (s g : Int) : FF 13 [.agg [vi s, vi g]] = some ([.agg [vi s, vi g]], []) := by
  rw [D_13 _ rfl, C_laws_toHandle]
  simp -implicitDefEqProofs

theorem toSlot_eq (s : Int × Bool × Int) : FF 67 [.agg (row1 s)] = some ([.agg (row1 s)], []) := by
  obtain ⟨g, u, v⟩ := s
  rw [D_67 _ rfl, C_laws_toSlot]
  simp -implicitDefEqProofs [row1]

theorem eqSlot_eq (s t : Int × Bool × Int) : FF 70 [.agg (row1 s), .agg (row1 t)] = some ([vb (decide (s = t))], []) := by
  obtain ⟨g, u, v⟩ := s
  obtain ⟨g', u', v'⟩ := t
  rw [D_70 _ rfl, C_laws_eqSlot]
  simp -implicitDefEqProofs [row1]
  repeat' (split <;> simp -implicitDefEqProofs [*])

end Go.Proofs.Ytekfjbejfondnaa.Tom
/-! Handles: loops over slots. -/
namespace Go.Proofs.Ytekfjbejfondnaa.Tom
open Go

theorem rowsL_length (l : SlotL) : (rowsL l).length = l.length := by simp [rowsL]
theorem rowsL_get (l : SlotL) (i : Nat) : (rowsL l)[i]? = (l[i]?).map row1 := by simp [rowsL]
@[simp] theorem rowsL_take (l : SlotL) : List.take l.length (rowsL l) = rowsL l := by rw [← rowsL_length, List.take_length]
@[simp] theorem rowsL_nil : rowsL [] = [] := rfl
@[simp] theorem rowsL_clean (l : SlotL) : cleanLL (rowsL l) = true := by
  induction l with
  | nil => rfl
  | cons s l ih => simp only [rowsL, List.map_cons, cleanLL, row1, cleans, clean, Bool.and_self, Bool.true_and]; exact ih
theorem row1_length (s : Int × Bool × Int) : (row1 s).length = 3 := rfl

theorem szSlotS_eq (ro : Ro) (l : SlotL) (h : l.length ≤ 9223372036854775807) (left : Int) (h1 : -1 ≤ left) (h2 : left ≤ 9223372036854775807) : FF 45 [.arr ro 3 (rowsL l), vi left] = some ([vi (if left - l.length < 0 then -1 else left - l.length)], []) := by
  have hw : IntKind.i64.wrap (left - (l.length : Int)) = left - l.length := wrap64_eq (by omega) (by omega)
  rw [D_45 _ rfl, C_laws_szSlotS]
  simp -implicitDefEqProofs [rowsL_length, hw]
  split <;> simp -implicitDefEqProofs

theorem szBook_eq (ro : Ro) (l : SlotL) (h : l.length ≤ 9223372036854775807) (left : Int) (h1 : -1 ≤ left) (h2 : left ≤ 9223372036854775807) : FF 10 [.agg [.arr ro 3 (rowsL l)], vi left] = some ([vi (if left - l.length < 0 then -1 else left - l.length)], []) := by
  rw [D_10 _ rfl, C_laws_szBook]
  have := fun ro => szSlotS_eq ro l h left h1 h2
  simp -implicitDefEqProofs [rowsL_length, this]
  by_cases hc : left - (l.length : Int) < 0
  · simp -implicitDefEqProofs [hc]
  · simp -implicitDefEqProofs [hc]

abbrev stS (i n : Nat) (ro : Ro) (src out : List (List T)) : St :=
  ⟨[.s (0, 0) (.sl ⟨(0, 1000), []⟩ 0 n), .s (3, 0) (.sl ⟨(3, 1000), []⟩ 0 n), .s (4, 0) (.val (.int .i64 i))], [((3, 1000), ⟨.own, 3, out⟩), ((0, 1000), ⟨ro, 3, src⟩)], []⟩

theorem toSlotS_step {i n : Nat} {ro : Ro} {src out : List (List T)} {s : Int × Bool × Int} {r0 : List T} (hi : i < n) (hn : n ≤ 1048576) (h1 : src[i]? = some (row1 s)) (h2 : out[i]? = some r0) (h3 : r0.length = 3) :
    H_laws_toSlotS_3 (stS i n ro src out) = H_laws_toSlotS_3 (stS (i + 1) n ro src (out.set i (row1 s))) := by
  have hw : IntKind.i64.wrap ((i : Int) + 1) = (i : Int) + 1 := wrap64_eq (by omega) (by omega)
  obtain ⟨g, u, v⟩ := s
  obtain ⟨a, b, c, rfl⟩ : ∃ a b c, r0 = [a, b, c] := by
    match r0, h3 with
    | [a, b, c], _ => exact ⟨a, b, c, rfl⟩
  rw [show ∀ t, H_laws_toSlotS_3 t = (EV B_laws_toSlotS_3 t).bind (thenN fun s => EV L_laws_toSlotS_3 s) from fun _ => rfl]
  have ht := toSlot_eq (g, u, v)
  simp only [row1] at h1 ht
  simp -implicitDefEqProofs [B_laws_toSlotS_3, hi, h1, h2, ht, hw, U_laws_toSlotS_3]
  rfl

theorem toSlotS_exit {n : Nat} {ro : Ro} {src out : List (List T)} :
    H_laws_toSlotS_3 (stS n n ro src out) = some (.exit 0, ⟨[.s (3, 0) (.sl ⟨(3, 1000), []⟩ 0 n)], [((3, 1000), ⟨.own, 3, out⟩)], []⟩) := by
  rw [show ∀ t, H_laws_toSlotS_3 t = (EV B_laws_toSlotS_3 t).bind (thenN fun s => EV L_laws_toSlotS_3 s) from fun _ => rfl]
  simp -implicitDefEqProofs [B_laws_toSlotS_3]

end Go.Proofs.Ytekfjbejfondnaa.Tom
/-! Handles: books. -/
namespace Go.Proofs.Ytekfjbejfondnaa.Tom
open Go

abbrev z3 : List T := [.val (.int .i64 0), .val (.bool false), .val (.int .i64 0)]

theorem set_mid {α : Type} (a : List α) (x y : α) (b : List α) : (a ++ x :: b).set a.length y = a ++ y :: b := by
  rw [List.set_append_right _ _ (Nat.le_refl _)]
  simp

theorem toSlotS_loop (ro : Ro) : ∀ (rest done : SlotL), (done ++ rest).length ≤ 1048576 →
    H_laws_toSlotS_3 (stS done.length (done ++ rest).length ro (rowsL (done ++ rest)) (rowsL done ++ List.replicate rest.length z3)) = some (.exit 0, ⟨[.s (3, 0) (.sl ⟨(3, 1000), []⟩ 0 (done ++ rest).length)], [((3, 1000), ⟨.own, 3, rowsL (done ++ rest)⟩)], []⟩)
  | [], done, _ => by
    have := toSlotS_exit (n := done.length) (ro := ro) (src := rowsL done) (out := rowsL done)
    simpa using this
  | s :: rest, done, h => by
    have h1 : (rowsL (done ++ s :: rest))[done.length]? = some (row1 s) := by rw [rowsL_get]; simp
    have h2 : (rowsL done ++ List.replicate (s :: rest).length z3)[done.length]? = some z3 := by
      rw [List.getElem?_append_right (by rw [rowsL_length]; exact Nat.le_refl _), rowsL_length]; simp [List.replicate_succ]
    rw [toSlotS_step (by simp) h h1 h2 rfl]
    have h3 : (rowsL done ++ List.replicate (s :: rest).length z3).set done.length (row1 s) = rowsL (done ++ [s]) ++ List.replicate rest.length z3 := by
      have := set_mid (rowsL done) z3 (row1 s) (List.replicate rest.length z3)
      rw [rowsL_length] at this
      rw [List.length_cons, List.replicate_succ, this]
      simp [rowsL]
    rw [h3]
    have := toSlotS_loop ro rest (done ++ [s]) (by simpa using h)
    simpa using this

theorem toSlotS_eq (ro : Ro) (l : SlotL) (h : l.length ≤ 1048576) : FF 47 [.arr ro 3 (rowsL l)] = some ([.arr .own 3 (rowsL l)], []) := by
  have hl := toSlotS_loop ro l [] (by simpa using h)
  have h1 : (0 : Int) ≤ l.length := by omega
  have h2 : (l.length : Int) * 24 ≤ 140737488355328 := by omega
  have h3 : (l.length : Int) ≤ 140737488355328 := by omega
  simp -implicitDefEqProofs [stS] at hl
  rw [D_47 _ rfl, C_laws_toSlotS]
  simp -implicitDefEqProofs [rowsL_length, h1, h2, h3, U_laws_toSlotS_3, hl]

theorem toBook_eq (ro : Ro) (l : SlotL) (h : l.length ≤ 1048576) : FF 12 [.agg [.arr ro 3 (rowsL l)]] = some ([.agg [.arr .own 3 (rowsL l)]], []) := by
  have := fun ro => toSlotS_eq ro l h
  rw [D_12 _ rfl, C_laws_toBook]
  simp -implicitDefEqProofs [rowsL_length, this]

abbrev stE (i n : Nat) (ro ro' : Ro) (a b : List (List T)) : St :=
  ⟨[.s (0, 0) (.sl ⟨(0, 1000), []⟩ 0 n), .s (1, 0) (.sl ⟨(1, 1000), []⟩ 0 n), .s (5, 0) (.val (.int .i64 i))], [((1, 1000), ⟨ro', 3, b⟩), ((0, 1000), ⟨ro, 3, a⟩)], []⟩

theorem eqSlotS_step {i n : Nat} {ro ro' : Ro} {a b : List (List T)} {s : Int × Bool × Int} (hi : i < n) (hn : n ≤ 1048576) (h1 : a[i]? = some (row1 s)) (h2 : b[i]? = some (row1 s)) :
    H_laws_eqSlotS_4 (stE i n ro ro' a b) = H_laws_eqSlotS_4 (stE (i + 1) n ro ro' a b) := by
  have hw : IntKind.i64.wrap ((i : Int) + 1) = (i : Int) + 1 := wrap64_eq (by omega) (by omega)
  obtain ⟨g, u, v⟩ := s
  rw [show ∀ t, H_laws_eqSlotS_4 t = (EV B_laws_eqSlotS_4 t).bind (thenN fun s => EV L_laws_eqSlotS_4 s) from fun _ => rfl]
  have ht := eqSlot_eq (g, u, v) (g, u, v)
  simp only [row1] at h1 h2 ht
  simp -implicitDefEqProofs [B_laws_eqSlotS_4, hi, h1, h2, ht, hw, U_laws_eqSlotS_4]
  rfl

theorem eqSlotS_exit {n : Nat} {ro ro' : Ro} {a b : List (List T)} : H_laws_eqSlotS_4 (stE n n ro ro' a b) = some (.exit 0, ⟨[], [], []⟩) := by
  rw [show ∀ t, H_laws_eqSlotS_4 t = (EV B_laws_eqSlotS_4 t).bind (thenN fun s => EV L_laws_eqSlotS_4 s) from fun _ => rfl]
  simp -implicitDefEqProofs [B_laws_eqSlotS_4]

theorem eqSlotS_loop (ro ro' : Ro) (l : SlotL) (hn : l.length ≤ 1048576) : ∀ k i, i + k = l.length → H_laws_eqSlotS_4 (stE i l.length ro ro' (rowsL l) (rowsL l)) = some (.exit 0, ⟨[], [], []⟩)
  | 0, i, h => by
    obtain rfl : i = l.length := by omega
    exact eqSlotS_exit
  | k + 1, i, h => by
    have hi : i < l.length := by omega
    have h1 : (rowsL l)[i]? = some (row1 l[i]) := by rw [rowsL_get, List.getElem?_eq_getElem hi]; rfl
    rw [eqSlotS_step hi hn h1 h1]
    exact eqSlotS_loop ro ro' l hn k (i + 1) (by omega)

theorem eqSlotS_eq (ro ro' : Ro) (l : SlotL) (h : l.length ≤ 1048576) : FF 50 [.arr ro 3 (rowsL l), .arr ro' 3 (rowsL l)] = some ([vb true], []) := by
  have hl := eqSlotS_loop ro ro' l h l.length 0 (by omega)
  simp only [stE] at hl
  rw [D_50 _ rfl, C_laws_eqSlotS]
  simp -implicitDefEqProofs [rowsL_length, U_laws_eqSlotS_4] at hl ⊢
  simp -implicitDefEqProofs [hl]

theorem eqBook_eq (ro ro' : Ro) (l : SlotL) (h : l.length ≤ 1048576) : FF 15 [.agg [.arr ro 3 (rowsL l)], .agg [.arr ro' 3 (rowsL l)]] = some ([vb true], []) := by
  have := fun ro ro' => eqSlotS_eq ro ro' l h
  rw [D_15 _ rfl, C_laws_eqBook]
  simp -implicitDefEqProofs [rowsL_length, this]

/-- What no slot of a good book is. -/
def bad (s : Int × Bool × Int) : Bool := !(decide (0 ≤ s.1) && decide (s.1 ≤ 8)) || !(decide (0 ≤ s.2.2) && decide (s.2.2 ≤ 1000)) || (!s.2.1 && !decide (s.2.2 = 0)) || (s.2.1 && decide (s.1 = 8))

theorem clos_eq (s : Int × Bool × Int) : FF 69 [.agg (row1 s)] = some ([vb (bad s)], []) := by
  obtain ⟨g, u, v⟩ := s
  rw [D_69 _ rfl, C_impl_isBook_c1]
  simp -implicitDefEqProofs [row1, within_eq, bad]
  by_cases h1 : 0 ≤ g <;> try (simp -implicitDefEqProofs [h1]; done)
  by_cases h2 : g ≤ 8 <;> try (simp -implicitDefEqProofs [h1, h2, within_eq]; done)
  by_cases h3 : 0 ≤ v <;> try (simp -implicitDefEqProofs [h1, h2, h3, within_eq]; done)
  by_cases h4 : v ≤ 1000 <;> try (simp -implicitDefEqProofs [h1, h2, h3, h4, within_eq]; done)
  cases u <;> by_cases h5 : v = 0 <;> by_cases h6 : g = 8 <;> simp -implicitDefEqProofs [h1, h2, h3, h4, h5, h6, within_eq]

end Go.Proofs.Ytekfjbejfondnaa.Tom
/-! Handles: good books, values. -/
namespace Go.Proofs.Ytekfjbejfondnaa.Tom
open Go

abbrev stI (i n : Nat) (ro : Ro) (a : List (List T)) : St :=
  ⟨[.s (0, 0) (.sl ⟨(0, 1000), []⟩ 0 n), .s (1, 0) (.fn 69 []), .s (7, 0) (.val (.int .i64 n)), .s (8, 0) (.val (.int .i64 i))], [((0, 1000), ⟨ro, 3, a⟩)], []⟩

theorem index_step {i n : Nat} {ro : Ro} {a : List (List T)} {s : Int × Bool × Int} (hi : i < n) (hn : n ≤ 1048576) (h1 : a[i]? = some (row1 s)) :
    H_slices_IndexFunc_Slot_2 (stI i n ro a) = if bad s = true then some (.ret, ⟨[.s (4, 0) (.val (.int .i64 i))], [], []⟩) else H_slices_IndexFunc_Slot_2 (stI (i + 1) n ro a) := by
  have hw : IntKind.i64.wrap ((i : Int) + 1) = (i : Int) + 1 := wrap64_eq (by omega) (by omega)
  have ht := clos_eq s
  generalize hb : bad s = q at ht
  obtain ⟨g, u, v⟩ := s
  rw [show ∀ t, H_slices_IndexFunc_Slot_2 t = (EV B_slices_IndexFunc_Slot_2 t).bind (thenN fun s => EV L_slices_IndexFunc_Slot_2 s) from fun _ => rfl]
  simp only [row1] at h1 ht
  simp -implicitDefEqProofs [B_slices_IndexFunc_Slot_2, hi, h1, ht]
  cases q
  · simp -implicitDefEqProofs [hw, U_slices_IndexFunc_Slot_2]
    rfl
  · simp -implicitDefEqProofs

theorem index_exit {n : Nat} {ro : Ro} {a : List (List T)} : H_slices_IndexFunc_Slot_2 (stI n n ro a) = some (.exit 0, ⟨[], [], []⟩) := by
  rw [show ∀ t, H_slices_IndexFunc_Slot_2 t = (EV B_slices_IndexFunc_Slot_2 t).bind (thenN fun s => EV L_slices_IndexFunc_Slot_2 s) from fun _ => rfl]
  simp -implicitDefEqProofs [B_slices_IndexFunc_Slot_2]

theorem index_loop (ro : Ro) (l : SlotL) (hn : l.length ≤ 1048576) : ∀ k i, i + k = l.length →
    (∃ j : Nat, H_slices_IndexFunc_Slot_2 (stI i l.length ro (rowsL l)) = some (.ret, ⟨[.s (4, 0) (.val (.int .i64 j))], [], []⟩) ∧ (l.drop i).any bad = true) ∨ (H_slices_IndexFunc_Slot_2 (stI i l.length ro (rowsL l)) = some (.exit 0, ⟨[], [], []⟩) ∧ (l.drop i).any bad = false)
  | 0, i, h => by
    obtain rfl : i = l.length := by omega
    exact .inr ⟨index_exit, by simp⟩
  | k + 1, i, h => by
    have hi : i < l.length := by omega
    have h1 : (rowsL l)[i]? = some (row1 l[i]) := by rw [rowsL_get, List.getElem?_eq_getElem hi]; rfl
    rw [index_step hi hn h1, List.drop_eq_getElem_cons hi, List.any_cons]
    by_cases hb : bad l[i] = true
    · rw [if_pos hb]
      exact .inl ⟨i, rfl, by simp [hb]⟩
    · rw [if_neg hb]
      have hb' : bad l[i] = false := by simpa using hb
      rw [hb', Bool.false_or]
      exact index_loop ro l hn k (i + 1) (by omega)

theorem indexFunc_eq (ro : Ro) (l : SlotL) (h : l.length ≤ 1048576) : ∃ j : Int, FF 72 [.arr ro 3 (rowsL l), .fn 69 []] = some ([vi j], []) ∧ decide (0 ≤ j) = l.any bad := by
  rcases index_loop ro l h l.length 0 (by omega) with ⟨j, h1, h2⟩ | ⟨h1, h2⟩
  · refine ⟨j, ?_, by simpa using h2.symm⟩
    simp -implicitDefEqProofs [stI] at h1
    rw [D_72 _ rfl, C_slices_IndexFunc_Slot]
    simp -implicitDefEqProofs [rowsL_length, U_slices_IndexFunc_Slot_2, h1]
  · refine ⟨-1, ?_, by simpa using h2.symm⟩
    simp -implicitDefEqProofs [stI] at h1
    rw [D_72 _ rfl, C_slices_IndexFunc_Slot]
    simp -implicitDefEqProofs [rowsL_length, U_slices_IndexFunc_Slot_2, h1]

theorem containsFunc_eq (ro : Ro) (l : SlotL) (h : l.length ≤ 1048576) : FF 68 [.arr ro 3 (rowsL l), .fn 69 []] = some ([vb (l.any bad)], []) := by
  have hi := fun ro => indexFunc_eq ro l h
  rw [D_68 _ rfl, C_slices_ContainsFunc_Slot]
  obtain ⟨j, h1, h2⟩ := hi ro.lend
  simp -implicitDefEqProofs [rowsL_length, h1, h2]

/-- A good book. -/
def good (l : SlotL) : Bool := (decide (1 ≤ (l.length : Int)) && decide ((l.length : Int) ≤ 6)) && !l.any bad

theorem isBook_eq (ro : Ro) (l : SlotL) (h : l.length ≤ 1048576) : FF 48 [.agg [.arr ro 3 (rowsL l)]] = some ([vb (good l)], []) := by
  have hc := fun ro => containsFunc_eq ro l h
  rw [D_48 _ rfl, C_impl_isBook]
  simp -implicitDefEqProofs [rowsL_length, within_eq, good]
  by_cases h1 : 1 ≤ (l.length : Int) <;> by_cases h2 : (l.length : Int) ≤ 6 <;> simp -implicitDefEqProofs [h1, h2, rowsL_length, hc]

end Go.Proofs.Ytekfjbejfondnaa.Tom
/-! Handles: the reference's good books; what a handle holds; the law on ValueOf. -/
namespace Go.Proofs.Ytekfjbejfondnaa.Tom
open Go

abbrev stG (i n : Nat) (ro : Ro) (a : List (List T)) : St :=
  ⟨[.s (1, 0) (.bx 1 0), .s (6, 0) (.sl ⟨(6, 1000), []⟩ 0 n), .s (7, 0) (.val (.int .i64 n)), .s (8, 0) (.val (.int .i64 i)), .s (1, 1) (.sl ⟨(6, 1000), []⟩ 0 n)], [((6, 1000), ⟨ro, 3, a⟩)], [(1, 1)]⟩

theorem goodS_step {i n : Nat} {ro : Ro} {a : List (List T)} {s : Int × Bool × Int} (hi : i < n) (hn : n ≤ 1048576) (ha : a[i]? = some (row1 s)) :
    H_spec_GoodBook_2 (stG i n ro a) = if bad s = true then some (.ret, ⟨[.s (2, 0) (.val (.bool false))], [], []⟩) else H_spec_GoodBook_2 (stG (i + 1) n ro a) := by
  have hw : IntKind.i64.wrap ((i : Int) + 1) = (i : Int) + 1 := wrap64_eq (by omega) (by omega)
  obtain ⟨g, u, v⟩ := s
  rw [show ∀ t, H_spec_GoodBook_2 t = (EV B_spec_GoodBook_2 t).bind (thenN fun s => EV L_spec_GoodBook_2 s) from fun _ => rfl]
  simp only [row1] at ha
  simp -implicitDefEqProofs [B_spec_GoodBook_2, hi, ha, l1In_eq, bad]
  by_cases h1 : 0 ≤ g <;> try (simp -implicitDefEqProofs [h1]; done)
  by_cases h2 : g ≤ 8 <;> try (simp -implicitDefEqProofs [h1, h2, l1In_eq]; done)
  by_cases h3 : 0 ≤ v <;> try (simp -implicitDefEqProofs [h1, h2, h3, l1In_eq]; done)
  by_cases h4 : v ≤ 1000 <;> try (simp -implicitDefEqProofs [h1, h2, h3, h4, l1In_eq]; done)
  have n1 : ¬ g < 0 := by omega
  have n2 : ¬ 8 < g := by omega
  have n3 : ¬ v < 0 := by omega
  have n4 : ¬ 1000 < v := by omega
  cases u <;> by_cases h5 : v = 0 <;> by_cases h6 : g = 8 <;> simp -implicitDefEqProofs [h1, h2, h3, h4, h5, h6, n1, n2, n3, n4, l1In_eq, hw, U_spec_GoodBook_2] <;> rfl

theorem goodS_exit {n : Nat} {ro : Ro} {a : List (List T)} : H_spec_GoodBook_2 (stG n n ro a) = some (.exit 0, ⟨[.s (1, 0) (.bx 1 0), .s (1, 1) (.sl ⟨(1, 1001), []⟩ 0 n)], [((1, 1001), ⟨ro, 3, a⟩)], [(1, 1)]⟩) := by
  rw [show ∀ t, H_spec_GoodBook_2 t = (EV B_spec_GoodBook_2 t).bind (thenN fun s => EV L_spec_GoodBook_2 s) from fun _ => rfl]
  simp -implicitDefEqProofs [B_spec_GoodBook_2]

theorem goodS_loop (ro : Ro) (l : SlotL) (hn : l.length ≤ 1048576) : ∀ k i, i + k = l.length →
    H_spec_GoodBook_2 (stG i l.length ro (rowsL l)) = if (l.drop i).any bad = true then some (.ret, ⟨[.s (2, 0) (.val (.bool false))], [], []⟩) else some (.exit 0, ⟨[.s (1, 0) (.bx 1 0), .s (1, 1) (.sl ⟨(1, 1001), []⟩ 0 l.length)], [((1, 1001), ⟨ro, 3, rowsL l⟩)], [(1, 1)]⟩)
  | 0, i, h => by
    obtain rfl : i = l.length := by omega
    rw [goodS_exit, if_neg (by simp)]
  | k + 1, i, h => by
    have hi : i < l.length := by omega
    have h1 : (rowsL l)[i]? = some (row1 l[i]) := by rw [rowsL_get, List.getElem?_eq_getElem hi]; rfl
    rw [goodS_step hi hn h1, List.drop_eq_getElem_cons hi, List.any_cons]
    by_cases hb : bad l[i] = true
    · rw [if_pos hb, if_pos (by simp [hb])]
    · rw [if_neg hb]
      have hb' : bad l[i] = false := by simpa using hb
      rw [hb', Bool.false_or]
      exact goodS_loop ro l hn k (i + 1) (by omega)

theorem goodBookS_eq (ro : Ro) (l : SlotL) (h : l.length ≤ 1048576) : FF 28 [.agg [.arr ro 3 (rowsL l)]] = some ([vb (good l)], []) := by
  have hl := goodS_loop ro l h l.length 0 (by omega)
  simp -implicitDefEqProofs [stG] at hl
  rw [D_28 _ rfl, C_spec_GoodBook]
  simp -implicitDefEqProofs [rowsL_length, U_spec_GoodBook_2, hl, good]
  by_cases hb : l.any bad = true
  · have hb' : ∃ a b c, (a, b, c) ∈ l ∧ bad (a, b, c) = true := by
      obtain ⟨x, h1, h2⟩ := List.any_eq_true.1 hb
      exact ⟨x.1, x.2.1, x.2.2, h1, h2⟩
    simp -implicitDefEqProofs [hb]
  · have hb0 : l.any bad = false := by simpa using hb
    have hb' : ¬ ∃ a b c, (a, b, c) ∈ l ∧ bad (a, b, c) = true := fun ⟨a, b, c, h1, h2⟩ => hb (List.any_eq_true.2 ⟨_, h1, h2⟩)
    simp -implicitDefEqProofs [hb0, l1In_eq]

/-- What a handle leads to. -/
def slotAt (l : SlotL) (s : Int) : Option (Int × Bool × Int) := if 0 ≤ s then l[s.toNat]? else none
def holds (l : SlotL) (s g : Int) : Bool := match slotAt l s with | some x => x.2.1 && decide (x.1 = g) | none => false

theorem slotAt_cases (l : SlotL) (s : Int) : (∃ (k : Nat) (x : Int × Bool × Int), s = k ∧ k < l.length ∧ l[k]? = some x ∧ slotAt l s = some x ∧ (rowsL l)[k]? = some (row1 x) ∧ s ≤ (l.length : Int) - 1) ∨ (slotAt l s = none ∧ ¬ (0 ≤ s ∧ s ≤ (l.length : Int) - 1)) := by
  by_cases h0 : 0 ≤ s
  · obtain ⟨k, rfl⟩ := Int.eq_ofNat_of_zero_le h0
    by_cases hk : k < l.length
    · refine .inl ⟨k, l[k], rfl, hk, List.getElem?_eq_getElem hk, ?_, ?_, by omega⟩
      · simp [slotAt, List.getElem?_eq_getElem hk]
      · rw [rowsL_get, List.getElem?_eq_getElem hk]; rfl
    · refine .inr ⟨?_, by omega⟩
      simp only [slotAt, h0, if_true, Int.toNat_natCast]
      exact List.getElem?_eq_none (by omega)
  · exact .inr ⟨by simp [slotAt, h0], by omega⟩

theorem get_of {a : List (List T)} {k : Nat} {r : List T} (h : a[k]? = some r) : ∀ hp : k < a.length, a[k]'hp = r := fun hp => by
  have := List.getElem?_eq_getElem hp
  rw [h] at this
  exact (Option.some.inj this).symm

theorem has_eq (ro : Ro) (l : SlotL) (h : l.length ≤ 1048576) (s g : Int) : FF 49 [.agg [.arr ro 3 (rowsL l)], .agg [vi s, vi g]] = some ([vb (holds l s g)], []) := by
  have hw : IntKind.i64.wrap ((l.length : Int) - 1) = (l.length : Int) - 1 := wrap64_eq (by omega) (by omega)
  rw [D_49 _ rfl, C_impl_Book_has]
  rcases slotAt_cases l s with ⟨k, x, rfl, hk, _, h2, h3, h4⟩ | ⟨h1, h2⟩
  · obtain ⟨g', u, v⟩ := x
    simp only [row1] at h3
    have h3' := get_of h3
    have h5 : (k : Int) < l.length := by omega
    simp -implicitDefEqProofs [rowsL_length, within_eq, hw, holds, h2, h3', h4, h5, hk]
    cases u <;> simp -implicitDefEqProofs [rowsL_length, h3', hk]
  · have h3 : (decide (0 ≤ s) && decide (s ≤ (l.length : Int) - 1)) = false := by
      rw [← Bool.decide_and]; simpa using h2
    simp -implicitDefEqProofs [rowsL_length, within_eq, hw, holds, h1, h3]

theorem l16Holds_eq (ro : Ro) (l : SlotL) (h : l.length ≤ 1048576) (s g : Int) : FF 46 [.agg [.arr ro 3 (rowsL l)], .agg [vi s, vi g]] = some ([vb (good l && holds l s g)], []) := by
  have hw : IntKind.i64.wrap ((l.length : Int) - 1) = (l.length : Int) - 1 := wrap64_eq (by omega) (by omega)
  have hg := fun ro => goodBookS_eq ro l h
  rw [D_46 _ rfl, C_spec_l16Holds]
  simp -implicitDefEqProofs [rowsL_length, hg]
  cases hgd : good l
  · simp -implicitDefEqProofs
  · rcases slotAt_cases l s with ⟨k, x, rfl, hk, _, h2, h3, h4⟩ | ⟨h1, h2⟩
    · obtain ⟨g', u, v⟩ := x
      simp only [row1] at h3
      have h3' := get_of h3
      have h5 : (k : Int) < l.length := by omega
      simp -implicitDefEqProofs [rowsL_length, l1In_eq, hw, holds, h2, h3', h4, h5, hk]
      cases u <;> simp -implicitDefEqProofs [rowsL_length, h3', hk]
    · have h3 : (decide (0 ≤ s) && decide (s ≤ (l.length : Int) - 1)) = false := by
        rw [← Bool.decide_and]; simpa using h2
      simp -implicitDefEqProofs [l1In_eq, hw, holds, h1, h3]

def valOf (l : SlotL) (s g : Int) : Int := if (good l && holds l s g) = true then ((slotAt l s).getD (0, false, 0)).2.2 else 0

theorem valueOfS_eq (ro : Ro) (l : SlotL) (h : l.length ≤ 1048576) (s g : Int) : FF 11 [.agg [.arr ro 3 (rowsL l)], .agg [vi s, vi g]] = some ([vi (valOf l s g), vb (good l && holds l s g)], []) := by
  have hg := fun ro => l16Holds_eq ro l h s g
  rw [D_11 _ rfl, C_spec_ValueOf]
  simp -implicitDefEqProofs [rowsL_length, hg, valOf]
  cases hgd : good l
  · simp -implicitDefEqProofs
  · cases hh : holds l s g
    · simp -implicitDefEqProofs
    · rcases slotAt_cases l s with ⟨k, x, rfl, hk, _, h2, h3, h4⟩ | ⟨h1, h2⟩
      · obtain ⟨g', u, v⟩ := x
        simp only [row1] at h3
        have h3' := get_of h3
        simp -implicitDefEqProofs [rowsL_length, h2, h3', hk]
      · simp [holds, h1] at hh

theorem valueOfI_eq (ro : Ro) (l : SlotL) (h : l.length ≤ 1048576) (s g : Int) : FF 14 [.agg [.arr ro 3 (rowsL l)], .agg [vi s, vi g]] = some ([vi (valOf l s g), vb (good l && holds l s g)], []) := by
  have hg := fun ro => isBook_eq ro l h
  have hh' := fun ro => has_eq ro l h s g
  rw [D_14 _ rfl, C_impl_ValueOf]
  simp -implicitDefEqProofs [rowsL_length, hg, valOf]
  cases hgd : good l
  · simp -implicitDefEqProofs
  · simp -implicitDefEqProofs [rowsL_length, hh']
    cases hh : holds l s g
    · simp -implicitDefEqProofs
    · rcases slotAt_cases l s with ⟨k, x, rfl, hk, _, h2, h3, h4⟩ | ⟨h1, h2⟩
      · obtain ⟨g', u, v⟩ := x
        simp only [row1] at h3
        have h3' := get_of h3
        simp -implicitDefEqProofs [rowsL_length, h2, h3', hk]
      · simp [holds, h1] at hh

theorem law3 (l : SlotL) (h : l.length ≤ 9223372036854775807) (s g : Int) : FF 3 [.agg [.arr .stat 3 (rowsL l)], .agg [vi s, vi g]] = some ([vb true], []) := by
  have hz := fun ro => szBook_eq ro l h 1048576 (by decide) (by decide)
  rw [D_3 _ rfl, C_laws_FnExactValueOf]
  by_cases hl : (1048576 : Int) - l.length < 0
  · simp -implicitDefEqProofs [rowsL_length, hz, hl]
  · have hl' : l.length ≤ 1048576 := by omega
    have ht := fun ro => toBook_eq ro l hl'
    have h1 := fun ro => valueOfS_eq ro l hl' s g
    have h2 := fun ro => valueOfI_eq ro l hl' s g
    have h3 := fun ro ro' => eqBook_eq ro ro' l hl'
    simp -implicitDefEqProofs [rowsL_length, hz, hl, ht, toHandle_eq, h1, h2, h3]

end Go.Proofs.Ytekfjbejfondnaa.Tom
/-! Handles: the law on LeftFor. -/
namespace Go.Proofs.Ytekfjbejfondnaa.Tom
open Go

def stepLeft (n : Int) (s : Int × Bool × Int) : Int :=
  if s.2.1 = true then IntKind.i64.wrap (IntKind.i64.wrap (n + IntKind.i64.wrap (8 - s.1)) - 1) else IntKind.i64.wrap (n + IntKind.i64.wrap (8 - s.1))

abbrev stL (q : Int) (i n : Nat) (ro : Ro) (a : List (List T)) : St :=
  ⟨[.s (4, 0) (.val (.int .i64 q)), .s (11, 0) (.sl ⟨(11, 1000), []⟩ 0 n), .s (12, 0) (.val (.int .i64 n)), .s (13, 0) (.val (.int .i64 i))], [((11, 1000), ⟨ro, 3, a⟩)], []⟩

def leftOf (l : SlotL) : Int := if good l = true then l.foldl stepLeft 0 else 0

theorem leftS_step {q : Int} {i n : Nat} {ro : Ro} {a : List (List T)} {s : Int × Bool × Int} (hi : i < n) (hn : n ≤ 1048576) (ha : a[i]? = some (row1 s)) :
    H_spec_LeftFor_5 (stL q i n ro a) = H_spec_LeftFor_5 (stL (stepLeft q s) (i + 1) n ro a) := by
  have hw : IntKind.i64.wrap ((i : Int) + 1) = (i : Int) + 1 := wrap64_eq (by omega) (by omega)
  obtain ⟨g, u, v⟩ := s
  rw [show ∀ t, H_spec_LeftFor_5 t = (EV B_spec_LeftFor_5 t).bind (thenN fun s => EV L_spec_LeftFor_5 s) from fun _ => rfl]
  simp only [row1] at ha
  cases u <;> simp -implicitDefEqProofs [B_spec_LeftFor_5, hi, ha, hw, stepLeft, U_spec_LeftFor_5] <;> rfl

theorem leftS_exit {q : Int} {n : Nat} {ro : Ro} {a : List (List T)} : H_spec_LeftFor_5 (stL q n n ro a) = some (.exit 0, ⟨[.s (4, 0) (.val (.int .i64 q))], [], []⟩) := by
  rw [show ∀ t, H_spec_LeftFor_5 t = (EV B_spec_LeftFor_5 t).bind (thenN fun s => EV L_spec_LeftFor_5 s) from fun _ => rfl]
  simp -implicitDefEqProofs [B_spec_LeftFor_5]

theorem leftS_loop (ro : Ro) (l : SlotL) (hn : l.length ≤ 1048576) : ∀ k i q, i + k = l.length →
    H_spec_LeftFor_5 (stL q i l.length ro (rowsL l)) = some (.exit 0, ⟨[.s (4, 0) (.val (.int .i64 ((l.drop i).foldl stepLeft q)))], [], []⟩)
  | 0, i, q, h => by
    obtain rfl : i = l.length := by omega
    rw [leftS_exit]; simp
  | k + 1, i, q, h => by
    have hi : i < l.length := by omega
    have h1 : (rowsL l)[i]? = some (row1 l[i]) := by rw [rowsL_get, List.getElem?_eq_getElem hi]; rfl
    rw [leftS_step hi hn h1, List.drop_eq_getElem_cons hi, List.foldl_cons]
    exact leftS_loop ro l hn k (i + 1) _ (by omega)

theorem leftS_eq (ro : Ro) (l : SlotL) (h : l.length ≤ 1048576) : FF 16 [.agg [.arr ro 3 (rowsL l)]] = some ([vi (leftOf l), vb (good l)], []) := by
  have hg := fun ro => goodBookS_eq ro l h
  have hl := leftS_loop ro l h l.length 0 0 (by omega)
  simp -implicitDefEqProofs [stL] at hl
  rw [D_16 _ rfl, C_spec_LeftFor]
  simp -implicitDefEqProofs [rowsL_length, hg, leftOf]
  cases hgd : good l
  · simp -implicitDefEqProofs
  · simp -implicitDefEqProofs [U_spec_LeftFor_5, hl]

theorem leftI_step {q : Int} {i n : Nat} {ro : Ro} {a : List (List T)} {s : Int × Bool × Int} (hi : i < n) (hn : n ≤ 1048576) (ha : a[i]? = some (row1 s)) :
    H_impl_LeftFor_5 (stL q i n ro a) = H_impl_LeftFor_5 (stL (stepLeft q s) (i + 1) n ro a) := by
  have hw : IntKind.i64.wrap ((i : Int) + 1) = (i : Int) + 1 := wrap64_eq (by omega) (by omega)
  obtain ⟨g, u, v⟩ := s
  rw [show ∀ t, H_impl_LeftFor_5 t = (EV B_impl_LeftFor_5 t).bind (thenN fun s => EV L_impl_LeftFor_5 s) from fun _ => rfl]
  simp only [row1] at ha
  cases u <;> simp -implicitDefEqProofs [B_impl_LeftFor_5, hi, ha, hw, stepLeft, U_impl_LeftFor_5] <;> rfl

theorem leftI_exit {q : Int} {n : Nat} {ro : Ro} {a : List (List T)} : H_impl_LeftFor_5 (stL q n n ro a) = some (.exit 0, ⟨[.s (4, 0) (.val (.int .i64 q))], [], []⟩) := by
  rw [show ∀ t, H_impl_LeftFor_5 t = (EV B_impl_LeftFor_5 t).bind (thenN fun s => EV L_impl_LeftFor_5 s) from fun _ => rfl]
  simp -implicitDefEqProofs [B_impl_LeftFor_5]

theorem leftI_loop (ro : Ro) (l : SlotL) (hn : l.length ≤ 1048576) : ∀ k i q, i + k = l.length →
    H_impl_LeftFor_5 (stL q i l.length ro (rowsL l)) = some (.exit 0, ⟨[.s (4, 0) (.val (.int .i64 ((l.drop i).foldl stepLeft q)))], [], []⟩)
  | 0, i, q, h => by
    obtain rfl : i = l.length := by omega
    rw [leftI_exit]; simp
  | k + 1, i, q, h => by
    have hi : i < l.length := by omega
    have h1 : (rowsL l)[i]? = some (row1 l[i]) := by rw [rowsL_get, List.getElem?_eq_getElem hi]; rfl
    rw [leftI_step hi hn h1, List.drop_eq_getElem_cons hi, List.foldl_cons]
    exact leftI_loop ro l hn k (i + 1) _ (by omega)

theorem leftI_eq (ro : Ro) (l : SlotL) (h : l.length ≤ 1048576) : FF 17 [.agg [.arr ro 3 (rowsL l)]] = some ([vi (leftOf l), vb (good l)], []) := by
  have hg := fun ro => isBook_eq ro l h
  have hl := leftI_loop ro l h l.length 0 0 (by omega)
  simp -implicitDefEqProofs [stL] at hl
  rw [D_17 _ rfl, C_impl_LeftFor]
  simp -implicitDefEqProofs [rowsL_length, hg, leftOf]
  cases hgd : good l
  · simp -implicitDefEqProofs
  · simp -implicitDefEqProofs [U_impl_LeftFor_5, hl]

theorem law4 (l : SlotL) (h : l.length ≤ 9223372036854775807) : FF 4 [.agg [.arr .stat 3 (rowsL l)]] = some ([vb true], []) := by
  have hz := fun ro => szBook_eq ro l h 1048576 (by decide) (by decide)
  rw [D_4 _ rfl, C_laws_FnExactLeftFor]
  by_cases hl : (1048576 : Int) - l.length < 0
  · simp -implicitDefEqProofs [rowsL_length, hz, hl]
  · have hl' : l.length ≤ 1048576 := by omega
    have ht := fun ro => toBook_eq ro l hl'
    have h1 := fun ro => leftS_eq ro l hl'
    have h2 := fun ro => leftI_eq ro l hl'
    have h3 := fun ro ro' => eqBook_eq ro ro' l hl'
    simp -implicitDefEqProofs [rowsL_length, hz, hl, ht, h1, h2, h3]

end Go.Proofs.Ytekfjbejfondnaa.Tom
/-! Handles: the laws' arguments. -/
namespace Go.Proofs.Ytekfjbejfondnaa.Tom
open Go

theorem cells102 : Try.prog.cellsOf 102 = 3 := by kernel_rfl
theorem str24 : isStr Try.prog 24 = true := by kernel_rfl
theorem str26 : isStr Try.prog 26 = true := by kernel_rfl

theorem slot_form {m : Nat} {row : List T} (h : TyT Try.prog m 102 row) : ∃ s, row = row1 s := by
  obtain ⟨m1, h⟩ := h.struct Try.underlying102
  obtain ⟨a, b, rfl, h1, h⟩ := h
  obtain ⟨c, d, rfl, h2, h⟩ := h
  obtain ⟨e, f, rfl, h3, h⟩ := h
  obtain rfl := h.nil
  obtain ⟨g, rfl, _⟩ := TyT.int Try.underlying3 h1
  obtain ⟨u, rfl⟩ := TyT.bool Try.underlying4 h2
  obtain ⟨v, rfl, _⟩ := TyT.int Try.underlying3 h3
  exact ⟨(g, u, v), rfl⟩

theorem book_form {m : Nat} {ts : List T} (h : TyT Try.prog m 24 ts) : ∃ l : SlotL, ts = [.arr .stat 3 (rowsL l)] ∧ l.length ≤ 9223372036854775807 := by
  obtain ⟨m1, h⟩ := h.struct Try.underlying24
  obtain ⟨a, b, rfl, h1, h⟩ := h
  obtain rfl := h.nil
  obtain ⟨m2, el, rfl, h2, h3⟩ := TyT.slice Try.underlying22 h1
  obtain ⟨l, rfl⟩ := rows_form fun row hr => slot_form (h3 row hr)
  refine ⟨l, by rw [cells102]; rfl, ?_⟩
  rw [List.length_map] at h2
  exact Nat.le_trans h2 (by decide)

theorem handle_form {m : Nat} {ts : List T} (h : TyT Try.prog m 26 ts) : ∃ s g, ts = [vi s, vi g] := by
  obtain ⟨m1, h⟩ := h.struct Try.underlying26
  obtain ⟨a, b, rfl, h1, h⟩ := h
  obtain ⟨c, d, rfl, h2, h⟩ := h
  obtain rfl := h.nil
  obtain ⟨s, rfl, _⟩ := TyT.int Try.underlying3 h1
  obtain ⟨g, rfl, _⟩ := TyT.int Try.underlying3 h2
  exact ⟨s, g, rfl⟩

set_option maxRecDepth 100000 in
theorem argBook {m : Nat} {l : List TypeId} {bs : List T} (h : ArgTy Try.prog m (24 :: l) bs) : ∃ (b : SlotL) (bs2 : List T), bs = .agg [.arr .stat 3 (rowsL b)] :: bs2 ∧ b.length ≤ 9223372036854775807 ∧ ArgTy Try.prog m l bs2 := by
  obtain ⟨ts, a, bs2, rfl, h1, h2, h3⟩ := h
  rw [str24, if_pos rfl] at h2
  obtain ⟨b, rfl, h4⟩ := book_form h1
  exact ⟨b, bs2, by rw [h2], h4, h3⟩

set_option maxRecDepth 100000 in
theorem argHandle {m : Nat} {l : List TypeId} {bs : List T} (h : ArgTy Try.prog m (26 :: l) bs) : ∃ (s g : Int) (bs2 : List T), bs = .agg [vi s, vi g] :: bs2 ∧ ArgTy Try.prog m l bs2 := by
  obtain ⟨ts, a, bs2, rfl, h1, h2, h3⟩ := h
  rw [str26, if_pos rfl] at h2
  obtain ⟨s, g, rfl⟩ := handle_form h1
  exact ⟨s, g, bs2, by rw [h2], h3⟩

set_option maxRecDepth 100000 in
theorem all3 (m : Nat) (l : List T) (h : ArgTy Try.prog m [24, 26] l) : FF 3 l = some ([.val (.bool true)], []) := by
  obtain ⟨b, l1, rfl, hb, h1⟩ := argBook h
  obtain ⟨s, g, l2, rfl, h2⟩ := argHandle h1
  obtain rfl : l2 = [] := h2
  exact law3 b hb s g

set_option maxRecDepth 100000 in
theorem all4 (m : Nat) (l : List T) (h : ArgTy Try.prog m [24] l) : FF 4 l = some ([.val (.bool true)], []) := by
  obtain ⟨b, l1, rfl, hb, h1⟩ := argBook h
  obtain rfl : l1 = [] := h1
  exact law4 b hb

end Go.Proofs.Ytekfjbejfondnaa.Tom
/-! Handles: marking a book's memory, finding the marks. -/
namespace Go.Proofs.Ytekfjbejfondnaa.Tom
open Go

/-- The row that a marking from k on writes. -/
def mk1 (k : Int) : Int × Bool × Int := (k, decide ((k + 1).tmod 3 = 0), k + 2)
def marks : Int → Nat → SlotL
  | _, 0 => []
  | k, n + 1 => mk1 k :: marks (k + 3) n

@[simp] theorem rowsL_plain (l : SlotL) : plain (rowsL l) = true := by
  induction l with
  | nil => rfl
  | cons s l ih => simp only [rowsL, List.map_cons, plain, row1, plainRow, plainT, Bool.and_self, Bool.true_and]; exact ih

theorem marks_length : ∀ (n : Nat) (k : Int), (marks k n).length = n
  | 0, _ => rfl
  | n + 1, k => by simp [marks, marks_length n]

abbrev stM (k : Int) (i n : Nat) (a : List (List T)) : St :=
  ⟨[.s (0, 0) (.sl ⟨(0, 0), []⟩ 0 n), .s (1, 0) (.val (.int .i64 k)), .s (5, 0) (.val (.int .i64 i))], [((0, 0), ⟨.own, 3, a⟩)], []⟩

theorem mark_step {k : Int} {i n : Nat} {a : List (List T)} {s : Int × Bool × Int} (hi : i < n) (hn : n ≤ 1048576) (hk : 0 ≤ k) (hk2 : k ≤ 1099511627776) (ha : a[i]? = some (row1 s)) (hl : a.length = n) :
    H_laws_markSlotS_2 (stM k i n a) = H_laws_markSlotS_2 (stM (k + 3) (i + 1) n (a.set i (row1 (mk1 k)))) := by
  have hw : IntKind.i64.wrap ((i : Int) + 1) = (i : Int) + 1 := wrap64_eq (by omega) (by omega)
  have hw1 : IntKind.i64.wrap (k + 1) = k + 1 := wrap64_eq (by omega) (by omega)
  have hw2 : IntKind.i64.wrap (k + 1 + 1) = k + 2 := by rw [wrap64_eq (by omega) (by omega)]; omega
  have hw3 : IntKind.i64.wrap (k + 2 + 1) = k + 3 := by rw [wrap64_eq (by omega) (by omega)]; omega
  obtain ⟨g, u, v⟩ := s
  have ha' := get_of ha
  have hia : i < a.length := by omega
  rw [show ∀ t, H_laws_markSlotS_2 t = (EV B_laws_markSlotS_2 t).bind (thenN fun s => EV L_laws_markSlotS_2 s) from fun _ => rfl]
  simp only [row1] at ha ha'
  simp -implicitDefEqProofs [B_laws_markSlotS_2, hi, ha', hia, hw, hw1, hw2, hw3, U_laws_markSlotS_2, mk1, row1, List.set_set]
  rfl

theorem mark_exit {k : Int} {n : Nat} {a : List (List T)} : H_laws_markSlotS_2 (stM k n n a) = some (.exit 0, ⟨[.s (0, 0) (.sl ⟨(0, 0), []⟩ 0 n), .s (1, 0) (.val (.int .i64 k))], [((0, 0), ⟨.own, 3, a⟩)], []⟩) := by
  rw [show ∀ t, H_laws_markSlotS_2 t = (EV B_laws_markSlotS_2 t).bind (thenN fun s => EV L_laws_markSlotS_2 s) from fun _ => rfl]
  simp -implicitDefEqProofs [B_laws_markSlotS_2]

theorem mark_loop : ∀ (rest done : SlotL) (k : Int), (done ++ rest).length ≤ 1048576 → 0 ≤ k → k + 3 * rest.length ≤ 1099511627776 →
    H_laws_markSlotS_2 (stM k done.length (done ++ rest).length (rowsL (done ++ rest))) = some (.exit 0, ⟨[.s (0, 0) (.sl ⟨(0, 0), []⟩ 0 (done ++ rest).length), .s (1, 0) (.val (.int .i64 (k + 3 * rest.length)))], [((0, 0), ⟨.own, 3, rowsL (done ++ marks k rest.length)⟩)], []⟩)
  | [], done, k, _, _, _ => by
    simp [marks, mark_exit]
  | s :: rest, done, k, h, h0, h1 => by
    have ha : (rowsL (done ++ s :: rest))[done.length]? = some (row1 s) := by rw [rowsL_get]; simp
    simp only [List.length_cons] at h1
    rw [mark_step (by simp) h h0 (by omega) ha (rowsL_length _)]
    have h3 : (rowsL (done ++ s :: rest)).set done.length (row1 (mk1 k)) = rowsL ((done ++ [mk1 k]) ++ rest) := by
      simp [rowsL]
    rw [h3]
    have := mark_loop rest (done ++ [mk1 k]) (k + 3) (by simp at h ⊢; omega) (by omega) (by omega)
    have e : k + 3 + 3 * (rest.length : Int) = k + 3 * ((rest.length + 1 : Nat) : Int) := by omega
    rw [e] at this
    simpa [marks] using this

theorem markSlotS_eq (l : SlotL) (k : Int) (h : l.length ≤ 1048576) (h0 : 0 ≤ k) (h1 : k ≤ 1099508482048) : FF 53 [.arr .own 3 (rowsL l), vi k] = some ([vi (k + 3 * l.length)], [.arr .own 3 (rowsL (marks k l.length))]) := by
  have hl := mark_loop l [] k (by simpa using h) h0 (by omega)
  simp -implicitDefEqProofs [stM] at hl
  rw [D_53 _ rfl, C_laws_markSlotS]
  have := rowsL_take (marks k l.length)
  rw [marks_length] at this
  simp -implicitDefEqProofs [rowsL_length, U_laws_markSlotS_2, hl, marks_length, this]

theorem markBook_eq (l : SlotL) (k : Int) (h : l.length ≤ 1048576) (h0 : 0 ≤ k) (h1 : k ≤ 1099508482048) : FF 20 [.agg [.arr .own 3 (rowsL l)], vi k] = some ([vi (k + 3 * l.length)], [.agg [.arr .own 3 (rowsL (marks k l.length))]]) := by
  have hm := markSlotS_eq l k h h0 h1
  have := rowsL_take (marks k l.length)
  rw [marks_length] at this
  rw [D_20 _ rfl, C_laws_markBook]
  simp -implicitDefEqProofs [rowsL_length, hm, marks_length, this]

abbrev stH (k : Int) (i n : Nat) (ro : Ro) (a : List (List T)) : St :=
  ⟨[.s (0, 0) (.sl ⟨(0, 1000), []⟩ 0 n), .s (1, 0) (.val (.int .i64 k)), .s (5, 0) (.val (.int .i64 i))], [((0, 1000), ⟨ro, 3, a⟩)], []⟩

theorem held_step {k : Int} {i n : Nat} {ro : Ro} {a : List (List T)} (hi : i < n) (hn : n ≤ 1048576) (hk : 0 ≤ k) (hk2 : k ≤ 1099511627776) (ha : a[i]? = some (row1 (mk1 k))) :
    H_laws_heldSlotS_2 (stH k i n ro a) = H_laws_heldSlotS_2 (stH (k + 3) (i + 1) n ro a) := by
  have hw : IntKind.i64.wrap ((i : Int) + 1) = (i : Int) + 1 := wrap64_eq (by omega) (by omega)
  have hw1 : IntKind.i64.wrap (k + 1) = k + 1 := wrap64_eq (by omega) (by omega)
  have hw2 : IntKind.i64.wrap (k + 1 + 1) = k + 2 := by rw [wrap64_eq (by omega) (by omega)]; omega
  have hw3 : IntKind.i64.wrap (k + 2 + 1) = k + 3 := by rw [wrap64_eq (by omega) (by omega)]; omega
  rw [show ∀ t, H_laws_heldSlotS_2 t = (EV B_laws_heldSlotS_2 t).bind (thenN fun s => EV L_laws_heldSlotS_2 s) from fun _ => rfl]
  simp only [row1, mk1] at ha
  simp -implicitDefEqProofs [B_laws_heldSlotS_2, hi, ha, hw, hw1, hw2, hw3, U_laws_heldSlotS_2]
  rfl

theorem held_exit {k : Int} {n : Nat} {ro : Ro} {a : List (List T)} : H_laws_heldSlotS_2 (stH k n n ro a) = some (.exit 0, ⟨[.s (1, 0) (.val (.int .i64 k))], [], []⟩) := by
  rw [show ∀ t, H_laws_heldSlotS_2 t = (EV B_laws_heldSlotS_2 t).bind (thenN fun s => EV L_laws_heldSlotS_2 s) from fun _ => rfl]
  simp -implicitDefEqProofs [B_laws_heldSlotS_2]

theorem marks_get : ∀ (n i : Nat) (k : Int), i < n → (marks k n)[i]? = some (mk1 (k + 3 * i))
  | n + 1, 0, k, _ => by simp [marks]
  | n + 1, i + 1, k, h => by
    simp only [marks, List.getElem?_cons_succ]
    rw [marks_get n i (k + 3) (by omega)]
    congr 2
    omega

theorem held_loop (ro : Ro) (k : Int) (n : Nat) (h : n ≤ 1048576) (h0 : 0 ≤ k) (h1 : k + 3 * n ≤ 1099511627776) : ∀ j i, i + j = n →
    H_laws_heldSlotS_2 (stH (k + 3 * i) i n ro (rowsL (marks k n))) = some (.exit 0, ⟨[.s (1, 0) (.val (.int .i64 (k + 3 * n)))], [], []⟩)
  | 0, i, hi => by
    obtain rfl : i = n := by omega
    exact held_exit
  | j + 1, i, hi => by
    have ha : (rowsL (marks k n))[i]? = some (row1 (mk1 (k + 3 * i))) := by rw [rowsL_get, marks_get n i k (by omega)]; rfl
    rw [held_step (by omega) h (by omega) (by omega) ha]
    have := held_loop ro k n h h0 h1 j (i + 1) (by omega)
    have e : k + 3 * ((i + 1 : Nat) : Int) = k + 3 * i + 3 := by omega
    rw [e] at this
    exact this

theorem heldSlotS_eq (ro : Ro) (k : Int) (n : Nat) (h : n ≤ 1048576) (h0 : 0 ≤ k) (h1 : k ≤ 1099508482048) : FF 54 [.arr ro 3 (rowsL (marks k n)), vi k] = some ([vi (k + 3 * n)], []) := by
  have hl := held_loop ro k n h h0 (by omega) n 0 (by omega)
  simp -implicitDefEqProofs [stH] at hl
  rw [D_54 _ rfl, C_laws_heldSlotS]
  simp -implicitDefEqProofs [rowsL_length, U_laws_heldSlotS_2, hl, marks_length]

theorem heldBook_eq (ro : Ro) (k : Int) (n : Nat) (h : n ≤ 1048576) (h0 : 0 ≤ k) (h1 : k ≤ 1099508482048) : FF 21 [.agg [.arr ro 3 (rowsL (marks k n))], vi k] = some ([vi (k + 3 * n)], []) := by
  have hm := fun ro => heldSlotS_eq ro k n h h0 h1
  have ht := rowsL_take (marks k n)
  rw [marks_length] at ht
  have hc : ¬ k + 3 * (n : Int) < 0 := by omega
  rw [D_21 _ rfl, C_laws_heldBook]
  simp -implicitDefEqProofs [rowsL_length, hm, marks_length, ht, hc]

end Go.Proofs.Ytekfjbejfondnaa.Tom
/-! Handles: freeing. -/
namespace Go.Proofs.Ytekfjbejfondnaa.Tom
open Go

theorem rowsL_set (l : SlotL) (k : Nat) (s : Int × Bool × Int) : (rowsL l).set k (row1 s) = rowsL (l.set k s) := by
  simp [rowsL, List.map_set]

theorem rowsL_live (l : SlotL) : ∀ x : List T, x ∈ rowsL l → x.length = 3 ∧ ∀ y : T, y ∈ x → y.live = true := by
  intro x hx
  obtain ⟨s, _, rfl⟩ := List.mem_map.1 hx
  refine ⟨rfl, fun y hy => ?_⟩
  simp only [row1, List.mem_cons, List.not_mem_nil, or_false] at hy
  rcases hy with rfl | rfl | rfl <;> rfl

theorem l16Own_eq (ro : Ro) (l : SlotL) (h : l.length ≤ 1048576) : FF 51 [.agg [.arr ro 3 (rowsL l)]] = some ([.agg [.arr .own 3 (rowsL l)]], []) := by
  have h1 : (0 : Int) ≤ l.length := by omega
  have h2 : l.length * 24 ≤ 140737488355328 := by omega
  have h3 : l.length ≤ 140737488355328 := by omega
  have hr := eq_true (rowsL_live l)
  rw [D_51 _ rfl, C_spec_l16Own]
  simp -implicitDefEqProofs [rowsL_length, h2, h3, hr]

theorem clone_eq (ro : Ro) (l : SlotL) (h : l.length ≤ 1048576) (h0 : 0 < l.length) : FF 52 [.arr ro 3 (rowsL l)] = some ([.arr .own 3 (rowsL l)], []) := by
  have h1 : (0 : Int) ≤ l.length := by omega
  have h2 : l.length * 24 ≤ 140737488355328 := by omega
  have h3 : l.length ≤ 140737488355328 := by omega
  have hr := eq_true (rowsL_live l)
  have h4 : l ≠ [] := by intro e; rw [e] at h0; exact absurd h0 (by decide)
  rw [D_52 _ rfl, C_slices_Clone_Slot]
  simp -implicitDefEqProofs [rowsL_length, h2, h3, hr, h0]

theorem good_length {l : SlotL} (h : good l = true) : 0 < l.length ∧ l.length ≤ 6 := by
  simp only [good, Bool.and_eq_true, decide_eq_true_eq] at h
  omega

@[simp] theorem take_marks (n : Nat) (k : Int) : List.take n (rowsL (marks k n)) = rowsL (marks k n) := by
  have := rowsL_take (marks k n)
  rwa [marks_length] at this

/-- The book after freeing. -/
def freeOf (l : SlotL) (s g : Int) : SlotL := if (good l && holds l s g) = true then l.set s.toNat (IntKind.i64.wrap (g + 1), false, 0) else []

theorem freeS_eq (ro : Ro) (l : SlotL) (h : l.length ≤ 1048576) (s g : Int) : FF 18 [.agg [.arr ro 3 (rowsL l)], .agg [vi s, vi g]] = some ([.agg [.arr .own 3 (rowsL (freeOf l s g))], vb (good l && holds l s g)], []) := by
  have hg := fun ro => l16Holds_eq ro l h s g
  have ho := fun ro => l16Own_eq ro l h
  rw [D_18 _ rfl, C_spec_FreeHandle]
  simp -implicitDefEqProofs [rowsL_length, hg, freeOf]
  cases hgd : good l
  · simp -implicitDefEqProofs
  · cases hh : holds l s g
    · simp -implicitDefEqProofs
    · rcases slotAt_cases l s with ⟨k, x, rfl, hk, _, h2, h3, h4⟩ | ⟨h1, h2⟩
      · obtain ⟨g', u, v⟩ := x
        have h6 := rowsL_set l k (IntKind.i64.wrap (g + 1), false, 0)
        simp only [row1] at h3 h6
        have h3' := get_of h3
        have h5 := rowsL_take (l.set k (IntKind.i64.wrap (g + 1), false, 0))
        rw [List.length_set] at h5
        simp -implicitDefEqProofs [rowsL_length, ho, h3', hk, h6, h5]
      · simp [holds, h1] at hh

theorem freeI_eq (ro : Ro) (l : SlotL) (h : l.length ≤ 1048576) (s g : Int) : FF 19 [.agg [.arr ro 3 (rowsL l)], .agg [vi s, vi g]] = some ([.agg [.arr .own 3 (rowsL (freeOf l s g))], vb (good l && holds l s g)], []) := by
  have hg := fun ro => isBook_eq ro l h
  have hh' := fun ro => has_eq ro l h s g
  rw [D_19 _ rfl, C_impl_FreeHandle]
  simp -implicitDefEqProofs [rowsL_length, hg, freeOf]
  cases hgd : good l
  · simp -implicitDefEqProofs
  · have ho := fun ro => clone_eq ro l h (good_length hgd).1
    simp -implicitDefEqProofs [rowsL_length, hh']
    cases hh : holds l s g
    · simp -implicitDefEqProofs
    · rcases slotAt_cases l s with ⟨k, x, rfl, hk, _, h2, h3, h4⟩ | ⟨h1, h2⟩
      · obtain ⟨g', u, v⟩ := x
        have h6 := rowsL_set l k (IntKind.i64.wrap (g + 1), false, 0)
        simp only [row1] at h3 h6
        have h3' := get_of h3
        have h5 := rowsL_take (l.set k (IntKind.i64.wrap (g + 1), false, 0))
        rw [List.length_set] at h5
        simp -implicitDefEqProofs [rowsL_length, ho, h3', hk, h6, h5]
      · simp [holds, h1] at hh

theorem freeOf_length (l : SlotL) (s g : Int) (h : l.length ≤ 1048576) : (freeOf l s g).length ≤ 1048576 := by
  unfold freeOf
  split <;> simp [h]

theorem law5 (l : SlotL) (h : l.length ≤ 9223372036854775807) (s g : Int) : FF 5 [.agg [.arr .stat 3 (rowsL l)], .agg [vi s, vi g]] = some ([vb true], []) := by
  have hz := fun ro => szBook_eq ro l h 1048576 (by decide) (by decide)
  rw [D_5 _ rfl, C_laws_FnExactFreeHandle]
  by_cases hl : (1048576 : Int) - l.length < 0
  · simp -implicitDefEqProofs [rowsL_length, hz, hl]
  · have hl' : l.length ≤ 1048576 := by omega
    have hf := freeOf_length l s g hl'
    have ht := fun ro => toBook_eq ro l hl'
    have h1 := fun ro => freeS_eq ro l hl' s g
    have h2 := fun ro => freeI_eq ro l hl' s g
    have h3 := fun ro ro' => eqBook_eq ro ro' l hl'
    have h4 := fun ro ro' => eqBook_eq ro ro' (freeOf l s g) hf
    have h5 := markBook_eq l 1 hl' (by decide) (by decide)
    have h6 := markBook_eq (freeOf l s g) 1 hf (by decide) (by decide)
    have h7 := fun ro => heldBook_eq ro 1 (freeOf l s g).length hf (by decide) (by decide)
    have c1 : ¬ 1 + 3 * (l.length : Int) < 0 := by omega
    have c2 : ¬ 1 + 3 * ((freeOf l s g).length : Int) < 0 := by omega
    generalize (good l && holds l s g) = q at h1 h2
    simp -implicitDefEqProofs [rowsL_length, marks_length, hz, hl, ht, toHandle_eq, h1, h2, h3, h4, h5, h6, h7, c1, c2]

end Go.Proofs.Ytekfjbejfondnaa.Tom
/-! Handles: the law on FreeHandle, for every argument. -/
namespace Go.Proofs.Ytekfjbejfondnaa.Tom
open Go

set_option maxRecDepth 100000 in
theorem all5 (m : Nat) (l : List T) (h : ArgTy Try.prog m [24, 26] l) : FF 5 l = some ([.val (.bool true)], []) := by
  obtain ⟨b, l1, rfl, hb, h1⟩ := argBook h
  obtain ⟨s, g, l2, rfl, h2⟩ := argHandle h1
  obtain rfl : l2 = [] := h2
  exact law5 b hb s g

end Go.Proofs.Ytekfjbejfondnaa.Tom
/-! Handles: the slot that a new handle takes. -/
namespace Go.Proofs.Ytekfjbejfondnaa.Tom
open Go

def genAt (l : SlotL) (q : Int) : Int := ((slotAt l q).getD (0, false, 0)).1
/-- The best slot so far, behind one slot more. -/
def pickN (l : SlotL) (q i : Int) (s : Int × Bool × Int) : Int := if s.2.1 = false ∧ s.1 < 8 ∧ (q < 0 ∨ s.1 < genAt l q) then i else q
def bestFrom (l : SlotL) : SlotL → Nat → Int → Int
  | [], _, q => q
  | s :: r, i, q => bestFrom l r (i + 1) (pickN l q i s)
def bestOf (l : SlotL) : Int := bestFrom l l 0 (-1)

def IsB (n : Nat) (q : Int) : Prop := q = -1 ∨ ∃ k : Nat, q = k ∧ k < n

theorem pickN_is {l : SlotL} {n : Nat} {q : Int} {i : Nat} {s : Int × Bool × Int} (h : IsB n q) (hi : i < n) : IsB n (pickN l q i s) := by
  unfold pickN
  split
  · exact .inr ⟨i, rfl, hi⟩
  · exact h

theorem bestFrom_is (l : SlotL) : ∀ (r : SlotL) (i : Nat) (q : Int), IsB l.length q → i + r.length = l.length → IsB l.length (bestFrom l r i q)
  | [], _, _, h, _ => h
  | s :: r, i, q, h, hi => by
    simp only [List.length_cons] at hi
    exact bestFrom_is l r (i + 1) _ (pickN_is h (by omega)) (by omega)

theorem bestOf_is (l : SlotL) : IsB l.length (bestOf l) := bestFrom_is l l 0 (-1) (.inl rfl) (by omega)

abbrev stNS (v q : Int) (i n : Nat) (ro : Ro) (a : List (List T)) : St :=
  ⟨[.s (1, 0) (.val (.int .i64 v)), .s (2, 0) (.bx 2 0), .s (4, 0) (.bx 4 0), .s (5, 0) (.bx 5 0), .s (7, 0) (.val (.int .i64 q)), .s (22, 0) (.sl ⟨(22, 1000), []⟩ 0 n), .s (23, 0) (.val (.int .i64 n)), .s (24, 0) (.val (.int .i64 i)), .s (2, 1) (.sl ⟨(22, 1000), []⟩ 0 n), .s (4, 1) (.sl ⟨(4, 1001), []⟩ 0 0), .s (5, 1) (.val (.int .i64 0)), .s (5, 2) (.val (.int .i64 0))],
    [((4, 1001), ⟨.own, 3, []⟩), ((22, 1000), ⟨ro, 3, a⟩)], [(2, 1), (4, 1), (5, 2)]⟩

theorem newS_step {v q : Int} {i : Nat} {ro : Ro} {l : SlotL} {s : Int × Bool × Int} (hi : i < l.length) (hn : l.length ≤ 1048576) (hq : IsB l.length q) (hs : l[i]? = some s) :
    H_spec_NewHandle_5 (stNS v q i l.length ro (rowsL l)) = H_spec_NewHandle_5 (stNS v (pickN l q i s) (i + 1) l.length ro (rowsL l)) := by
  have hw : IntKind.i64.wrap ((i : Int) + 1) = (i : Int) + 1 := wrap64_eq (by omega) (by omega)
  have ha : (rowsL l)[i]? = some (row1 s) := by rw [rowsL_get, hs]; rfl
  obtain ⟨g, u, w⟩ := s
  have ha' := get_of ha
  rw [show ∀ t, H_spec_NewHandle_5 t = (EV B_spec_NewHandle_5 t).bind (thenN fun s => EV L_spec_NewHandle_5 s) from fun _ => rfl]
  simp only [row1] at ha ha'
  cases u
  · by_cases h8 : g < 8
    · rcases hq with rfl | ⟨k, rfl, hk⟩
      · simp -implicitDefEqProofs [B_spec_NewHandle_5, hi, ha, hw, pickN, U_spec_NewHandle_5, h8]
        rfl
      · obtain ⟨x, hx⟩ : ∃ x, l[k]? = some x := ⟨l[k], List.getElem?_eq_getElem hk⟩
        have hb : (rowsL l)[k]? = some (row1 x) := by rw [rowsL_get, hx]; rfl
        have hg : genAt l k = x.1 := by simp [genAt, slotAt, hx]
        obtain ⟨g', u', w'⟩ := x
        have hb' := get_of hb
        simp only [row1] at hb hb'
        have hk0 : ¬ (k : Int) < 0 := by omega
        by_cases hc : g < g'
        · simp -implicitDefEqProofs [B_spec_NewHandle_5, hi, ha', hw, pickN, U_spec_NewHandle_5, h8, hk, hb', hg, hc, hk0, rowsL_length]
          rfl
        · simp -implicitDefEqProofs [B_spec_NewHandle_5, hi, ha', hw, pickN, U_spec_NewHandle_5, h8, hk, hb', hg, hc, hk0, rowsL_length]
          rfl
    · simp -implicitDefEqProofs [B_spec_NewHandle_5, hi, ha, hw, pickN, U_spec_NewHandle_5, h8]
      rfl
  · simp -implicitDefEqProofs [B_spec_NewHandle_5, hi, ha, hw, pickN, U_spec_NewHandle_5]
    rfl

abbrev stNSx (v q : Int) (n : Nat) (ro : Ro) (a : List (List T)) : St :=
  ⟨[.s (1, 0) (.val (.int .i64 v)), .s (2, 0) (.bx 2 0), .s (4, 0) (.bx 4 0), .s (5, 0) (.bx 5 0), .s (7, 0) (.val (.int .i64 q)), .s (2, 1) (.sl ⟨(2, 1001), []⟩ 0 n), .s (4, 1) (.sl ⟨(4, 1001), []⟩ 0 0), .s (5, 1) (.val (.int .i64 0)), .s (5, 2) (.val (.int .i64 0))],
    [((4, 1001), ⟨.own, 3, []⟩), ((2, 1001), ⟨ro, 3, a⟩)], [(2, 1), (4, 1), (5, 2)]⟩

theorem newS_exit {v q : Int} {n : Nat} {ro : Ro} {a : List (List T)} : H_spec_NewHandle_5 (stNS v q n n ro a) = some (.exit 0, stNSx v q n ro a) := by
  rw [show ∀ t, H_spec_NewHandle_5 t = (EV B_spec_NewHandle_5 t).bind (thenN fun s => EV L_spec_NewHandle_5 s) from fun _ => rfl]
  simp -implicitDefEqProofs [B_spec_NewHandle_5]

theorem newS_loop (v : Int) (ro : Ro) (l : SlotL) (hn : l.length ≤ 1048576) : ∀ k i q, i + k = l.length → IsB l.length q →
    H_spec_NewHandle_5 (stNS v q i l.length ro (rowsL l)) = some (.exit 0, stNSx v (bestFrom l (l.drop i) i q) l.length ro (rowsL l))
  | 0, i, q, h, _ => by
    obtain rfl : i = l.length := by omega
    rw [newS_exit]; simp [bestFrom]
  | k + 1, i, q, h, hq => by
    have hi : i < l.length := by omega
    rw [newS_step hi hn hq (List.getElem?_eq_getElem hi), List.drop_eq_getElem_cons hi, bestFrom]
    exact newS_loop v ro l hn k (i + 1) _ (by omega) (pickN_is hq hi)

/-- Whether a new handle may be had, and the book then. -/
def mayNew (l : SlotL) (v : Int) : Bool := good l && (decide (0 ≤ v) && decide (v ≤ 1000)) && decide (0 ≤ bestOf l)
def newOf (l : SlotL) (v : Int) : SlotL := if mayNew l v = true then l.set (bestOf l).toNat (genAt l (bestOf l), true, v) else []
def handOf (l : SlotL) (v : Int) : List T := if mayNew l v = true then [vi (bestOf l), vi (genAt l (bestOf l))] else [vi 0, vi 0]

theorem newS_eq (ro : Ro) (l : SlotL) (h : l.length ≤ 1048576) (v : Int) : FF 22 [.agg [.arr ro 3 (rowsL l)], vi v] = some ([.agg [.arr .own 3 (rowsL (newOf l v))], .agg (handOf l v), vb (mayNew l v)], []) := by
  have hg := fun ro => goodBookS_eq ro l h
  have ho := fun ro => l16Own_eq ro l h
  have hl := fun ro => newS_loop v ro l h l.length 0 (-1) (by omega) (.inl rfl)
  rw [List.drop_zero] at hl
  change ∀ ro, H_spec_NewHandle_5 _ = some (_, stNSx v (bestOf l) _ _ _) at hl
  simp -implicitDefEqProofs [stNS, stNSx] at hl
  rw [D_22 _ rfl, C_spec_NewHandle]
  simp -implicitDefEqProofs [rowsL_length, hg, newOf, handOf, mayNew]
  cases hgd : good l
  · simp -implicitDefEqProofs
  · by_cases h1 : 0 ≤ v
    · by_cases h2 : v ≤ 1000
      · rcases bestOf_is l with hb | ⟨k, hb, hk⟩
        · simp -implicitDefEqProofs [l1In_eq, h1, h2, U_spec_NewHandle_5, hl, hb]
        · obtain ⟨x, hx⟩ : ∃ x, l[k]? = some x := ⟨l[k], List.getElem?_eq_getElem hk⟩
          have hc : (rowsL l)[k]? = some (row1 x) := by rw [rowsL_get, hx]; rfl
          have hgn : genAt l k = x.1 := by simp [genAt, slotAt, hx]
          obtain ⟨g', u', w'⟩ := x
          have hc' := get_of hc
          have h6 := rowsL_set l k (g', true, v)
          have h5 := rowsL_take (l.set k (g', true, v))
          rw [List.length_set] at h5
          simp only [row1] at hc hc' h6
          have hk0 : ¬ (k : Int) < 0 := by omega
          simp -implicitDefEqProofs [rowsL_length, l1In_eq, h1, h2, U_spec_NewHandle_5, hl, hb, hk0, ho, hk, hc', hgn, List.set_set, h6, h5]
      · simp -implicitDefEqProofs [l1In_eq, h1, h2]
    · simp -implicitDefEqProofs [l1In_eq, h1]

end Go.Proofs.Ytekfjbejfondnaa.Tom
/-! Handles: the program's new handle, and the law on NewHandle. -/
namespace Go.Proofs.Ytekfjbejfondnaa.Tom
open Go

abbrev stNI (v q : Int) (i n : Nat) (a : List (List T)) : St :=
  ⟨[.s (0, 0) (.bx 0 0), .s (1, 0) (.val (.int .i64 v)), .s (4, 0) (.bx 4 0), .s (6, 0) (.val (.int .i64 q)), .s (12, 0) (.sl ⟨(12, 1000), []⟩ 0 n), .s (13, 0) (.val (.int .i64 n)), .s (14, 0) (.val (.int .i64 i)), .s (4, 1) (.val (.int .i64 0)), .s (4, 2) (.val (.int .i64 0)), .s (0, 1) (.sl ⟨(12, 1000), []⟩ 0 n)],
    [((12, 1000), ⟨.own, 3, a⟩)], [(4, 2), (0, 1)]⟩

theorem newI_step {v q : Int} {i : Nat} {l : SlotL} {s : Int × Bool × Int} (hi : i < l.length) (hn : l.length ≤ 1048576) (hq : IsB l.length q) (hs : l[i]? = some s) :
    H_impl_Book_create_3 (stNI v q i l.length (rowsL l)) = H_impl_Book_create_3 (stNI v (pickN l q i s) (i + 1) l.length (rowsL l)) := by
  have hw : IntKind.i64.wrap ((i : Int) + 1) = (i : Int) + 1 := wrap64_eq (by omega) (by omega)
  have ha : (rowsL l)[i]? = some (row1 s) := by rw [rowsL_get, hs]; rfl
  obtain ⟨g, u, w⟩ := s
  have ha' := get_of ha
  rw [show ∀ t, H_impl_Book_create_3 t = (EV B_impl_Book_create_3 t).bind (thenN fun s => EV L_impl_Book_create_3 s) from fun _ => rfl]
  simp only [row1] at ha ha'
  cases u
  · by_cases h8 : g < 8
    · rcases hq with rfl | ⟨k, rfl, hk⟩
      · simp -implicitDefEqProofs [B_impl_Book_create_3, hi, ha, hw, pickN, U_impl_Book_create_3, h8]
        rfl
      · obtain ⟨x, hx⟩ : ∃ x, l[k]? = some x := ⟨l[k], List.getElem?_eq_getElem hk⟩
        have hb : (rowsL l)[k]? = some (row1 x) := by rw [rowsL_get, hx]; rfl
        have hg : genAt l k = x.1 := by simp [genAt, slotAt, hx]
        obtain ⟨g', u', w'⟩ := x
        have hb' := get_of hb
        simp only [row1] at hb hb'
        have hk0 : ¬ (k : Int) < 0 := by omega
        by_cases hc : g < g'
        · simp -implicitDefEqProofs [B_impl_Book_create_3, hi, ha', hw, pickN, U_impl_Book_create_3, h8, hk, hb', hg, hc, hk0, rowsL_length]
          rfl
        · simp -implicitDefEqProofs [B_impl_Book_create_3, hi, ha', hw, pickN, U_impl_Book_create_3, h8, hk, hb', hg, hc, hk0, rowsL_length]
          rfl
    · simp -implicitDefEqProofs [B_impl_Book_create_3, hi, ha, hw, pickN, U_impl_Book_create_3, h8]
      rfl
  · simp -implicitDefEqProofs [B_impl_Book_create_3, hi, ha, hw, pickN, U_impl_Book_create_3]
    rfl

abbrev stNIx (v q : Int) (n : Nat) (a : List (List T)) : St :=
  ⟨[.s (0, 0) (.bx 0 0), .s (1, 0) (.val (.int .i64 v)), .s (4, 0) (.bx 4 0), .s (6, 0) (.val (.int .i64 q)), .s (4, 1) (.val (.int .i64 0)), .s (4, 2) (.val (.int .i64 0)), .s (0, 1) (.sl ⟨(0, 1001), []⟩ 0 n)],
    [((0, 1001), ⟨.own, 3, a⟩)], [(4, 2), (0, 1)]⟩

theorem newI_exit {v q : Int} {n : Nat} {a : List (List T)} : H_impl_Book_create_3 (stNI v q n n a) = some (.exit 0, stNIx v q n a) := by
  rw [show ∀ t, H_impl_Book_create_3 t = (EV B_impl_Book_create_3 t).bind (thenN fun s => EV L_impl_Book_create_3 s) from fun _ => rfl]
  simp -implicitDefEqProofs [B_impl_Book_create_3]

theorem newI_loop (v : Int) (l : SlotL) (hn : l.length ≤ 1048576) : ∀ k i q, i + k = l.length → IsB l.length q →
    H_impl_Book_create_3 (stNI v q i l.length (rowsL l)) = some (.exit 0, stNIx v (bestFrom l (l.drop i) i q) l.length (rowsL l))
  | 0, i, q, h, _ => by
    obtain rfl : i = l.length := by omega
    rw [newI_exit]; simp [bestFrom]
  | k + 1, i, q, h, hq => by
    have hi : i < l.length := by omega
    rw [newI_step hi hn hq (List.getElem?_eq_getElem hi), List.drop_eq_getElem_cons hi, bestFrom]
    exact newI_loop v l hn k (i + 1) _ (by omega) (pickN_is hq hi)

def mayC (l : SlotL) : Bool := decide (0 ≤ bestOf l)
def bookC (l : SlotL) (v : Int) : SlotL := if mayC l = true then l.set (bestOf l).toNat (genAt l (bestOf l), true, v) else l
def handC (l : SlotL) : List T := if mayC l = true then [vi (bestOf l), vi (genAt l (bestOf l))] else [vi 0, vi 0]

theorem create_eq (l : SlotL) (h : l.length ≤ 1048576) (v : Int) : FF 57 [.ptr [.arr .own 3 (rowsL l)], vi v] = some ([.agg (handC l), vb (mayC l)], [.ptr [.arr .own 3 (rowsL (bookC l v))]]) := by
  have hl := newI_loop v l h l.length 0 (-1) (by omega) (.inl rfl)
  rw [List.drop_zero] at hl
  change H_impl_Book_create_3 _ = some (_, stNIx v (bestOf l) _ _) at hl
  simp -implicitDefEqProofs [stNI, stNIx] at hl
  rw [D_57 _ rfl, C_impl_Book_create]
  simp -implicitDefEqProofs [rowsL_length, bookC, handC, mayC]
  rcases bestOf_is l with hb | ⟨k, hb, hk⟩
  · simp -implicitDefEqProofs [rowsL_length, U_impl_Book_create_3, hl, hb]
  · obtain ⟨x, hx⟩ : ∃ x, l[k]? = some x := ⟨l[k], List.getElem?_eq_getElem hk⟩
    have hc : (rowsL l)[k]? = some (row1 x) := by rw [rowsL_get, hx]; rfl
    have hgn : genAt l k = x.1 := by simp [genAt, slotAt, hx]
    obtain ⟨g', u', w'⟩ := x
    have hc' := get_of hc
    have h6 := rowsL_set l k (g', true, v)
    have h5 := rowsL_take (l.set k (g', true, v))
    rw [List.length_set] at h5
    have h7 : (rowsL (l.set k (g', true, v)))[k]? = some (row1 (g', true, v)) := by rw [rowsL_get, List.getElem?_set_self hk]; rfl
    have h7' := get_of h7
    simp only [row1] at hc hc' h6 h7 h7'
    have hk0 : ¬ (k : Int) < 0 := by omega
    simp -implicitDefEqProofs [rowsL_length, U_impl_Book_create_3, hl, hb, hk0, hk, hc', hgn, List.set_set, h6, h5, h7']

theorem bookC_length (l : SlotL) (v : Int) : (bookC l v).length = l.length := by
  unfold bookC
  split <;> simp

theorem newI_eq (ro : Ro) (l : SlotL) (h : l.length ≤ 1048576) (v : Int) : FF 23 [.agg [.arr ro 3 (rowsL l)], vi v] = some ([.agg [.arr .own 3 (rowsL (newOf l v))], .agg (handOf l v), vb (mayNew l v)], []) := by
  have hg := fun ro => isBook_eq ro l h
  have hc := create_eq l h v
  have ht := rowsL_take (bookC l v)
  rw [bookC_length] at ht
  rw [D_23 _ rfl, C_impl_NewHandle]
  simp -implicitDefEqProofs [rowsL_length, hg, newOf, handOf, mayNew]
  cases hgd : good l
  · simp -implicitDefEqProofs
  · have ho := fun ro => clone_eq ro l h (good_length hgd).1
    by_cases h1 : 0 ≤ v
    · by_cases h2 : v ≤ 1000
      · cases hm : mayC l
        · have hm0 : ¬ 0 ≤ bestOf l := by simpa [mayC] using hm
          have hd : handC l = [vi 0, vi 0] := by simp [handC, hm]
          rw [hm, hd] at hc
          simp -implicitDefEqProofs [rowsL_length, within_eq, h1, h2, ho, hc, bookC_length, hm0]
        · have hm0 : 0 ≤ bestOf l := by simpa [mayC] using hm
          have hd : handC l = [vi (bestOf l), vi (genAt l (bestOf l))] := by simp [handC, hm]
          have hb : bookC l v = l.set (bestOf l).toNat (genAt l (bestOf l), true, v) := by simp [bookC, hm]
          rw [hb] at ht hc
          rw [hm, hd] at hc
          simp -implicitDefEqProofs [rowsL_length, within_eq, h1, h2, ho, hc, ht, hm0]
      · simp -implicitDefEqProofs [within_eq, h1, h2]
    · simp -implicitDefEqProofs [within_eq, h1]

theorem eqHandle_eq (s g s' g' : Int) : FF 24 [.agg [vi s, vi g], .agg [vi s', vi g']] = some ([vb (decide (s = s') && decide (g = g'))], []) := by
  rw [D_24 _ rfl, C_laws_eqHandle]
  simp -implicitDefEqProofs
  repeat' (split <;> simp -implicitDefEqProofs [*])

theorem newOf_length (l : SlotL) (v : Int) (h : l.length ≤ 1048576) : (newOf l v).length ≤ 1048576 := by
  unfold newOf
  split <;> simp [h]

theorem law6 (l : SlotL) (h : l.length ≤ 9223372036854775807) (v : Int) : FF 6 [.agg [.arr .stat 3 (rowsL l)], vi v] = some ([vb true], []) := by
  have hz := fun ro => szBook_eq ro l h 1048576 (by decide) (by decide)
  rw [D_6 _ rfl, C_laws_FnExactNewHandle]
  by_cases hl : (1048576 : Int) - l.length < 0
  · simp -implicitDefEqProofs [rowsL_length, hz, hl]
  · have hl' : l.length ≤ 1048576 := by omega
    have hf := newOf_length l v hl'
    have ht := fun ro => toBook_eq ro l hl'
    have h1 := fun ro => newS_eq ro l hl' v
    have h2 := fun ro => newI_eq ro l hl' v
    have h3 := fun ro ro' => eqBook_eq ro ro' l hl'
    have h4 := fun ro ro' => eqBook_eq ro ro' (newOf l v) hf
    have h5 := markBook_eq l 1 hl' (by decide) (by decide)
    have h6 := markBook_eq (newOf l v) 1 hf (by decide) (by decide)
    have h7 := fun ro => heldBook_eq ro 1 (newOf l v).length hf (by decide) (by decide)
    have c1 : ¬ 1 + 3 * (l.length : Int) < 0 := by omega
    have c2 : ¬ 1 + 3 * ((newOf l v).length : Int) < 0 := by omega
    obtain ⟨s, g, hd⟩ : ∃ s g, handOf l v = [vi s, vi g] := by unfold handOf; split <;> exact ⟨_, _, rfl⟩
    rw [hd] at h1 h2
    generalize mayNew l v = q at h1 h2
    simp -implicitDefEqProofs [rowsL_length, marks_length, hz, hl, ht, eqHandle_eq, h1, h2, h3, h4, h5, h6, h7, c1, c2]

end Go.Proofs.Ytekfjbejfondnaa.Tom
/-! Handles: the law on NewHandle, for every argument. -/
namespace Go.Proofs.Ytekfjbejfondnaa.Tom
open Go

theorem str3 : isStr Try.prog 3 = false := by kernel_rfl

set_option maxRecDepth 100000 in
theorem argInt {m : Nat} {l : List TypeId} {bs : List T} (h : ArgTy Try.prog m (3 :: l) bs) : ∃ (n : Int) (bs2 : List T), bs = vi n :: bs2 ∧ ArgTy Try.prog m l bs2 := by
  obtain ⟨ts, a, bs2, rfl, h1, h2, h3⟩ := h
  rw [str3, if_neg (by decide)] at h2
  obtain ⟨n, rfl, _⟩ := TyT.int Try.underlying3 h1
  exact ⟨n, bs2, by rw [← (List.cons.inj h2).1], h3⟩

set_option maxRecDepth 100000 in
theorem all6 (m : Nat) (l : List T) (h : ArgTy Try.prog m [24, 3] l) : FF 6 l = some ([.val (.bool true)], []) := by
  obtain ⟨b, l1, rfl, hb, h1⟩ := argBook h
  obtain ⟨v, l2, rfl, h2⟩ := argInt h1
  obtain rfl : l2 = [] := h2
  exact law6 b hb v

end Go.Proofs.Ytekfjbejfondnaa.Tom
