/- Marks on numbers and on rules: what they may turn. -/
import Derived.Test.YtbimcababidjgaaApT
import Derived.Test.YtbimcababidjgaaKi3
import Derived.Test.YtbimcababidjgaaDrk
namespace Go.Proofs.Ytbimcababidjgaa
set_option linter.unusedSimpArgs false
set_option linter.unusedVariables false
open Go.RowKit

/-- Blocks outside lo .. hi stay; sizes, types stay; blocks that are no numbers stay. -/
structure MkI (lo hi : Nat) (w w' : World) : Prop where
  os : w'.os = w.os
  tape : w'.tape = w.tape
  output : w'.output = w.output
  size : w'.heap.size = w.heap.size
  out : ∀ k, k < lo ∨ hi ≤ k → w'.heap[k]? = w.heap[k]?
  cells : ∀ (k : Nat) (cs : Array Value) (T : TypeId), w.heap[k]? = some (.cells cs T (0, 0)) → ∃ cs', w'.heap[k]? = some (.cells cs' T (0, 0)) ∧ cs'.size = cs.size ∧ (T ≠ 3 → cs' = cs)
/-- Blocks outside lo .. hi stay. -/
structure MkO (lo hi : Nat) (w w' : World) : Prop where
  os : w'.os = w.os
  tape : w'.tape = w.tape
  output : w'.output = w.output
  size : w'.heap.size = w.heap.size
  out : ∀ k, k < lo ∨ hi ≤ k → w'.heap[k]? = w.heap[k]?
  ints : ∀ (k : Nat) (cs : Array Value), w.heap[k]? = some (.cells cs 3 (0, 0)) → ∃ cs', w'.heap[k]? = some (.cells cs' 3 (0, 0)) ∧ cs'.size = cs.size
section
variable {lo hi : Nat} {w w' w'' : World}
theorem MkI.refl (lo hi : Nat) (w : World) : MkI lo hi w w := ⟨rfl, rfl, rfl, rfl, fun _ _ => rfl, fun _ cs _ h => ⟨cs, h, rfl, fun _ => rfl⟩⟩
theorem MkI.trans (h : MkI lo hi w w') (h2 : MkI lo hi w' w'') : MkI lo hi w w'' :=
  ⟨h2.os.trans h.os, h2.tape.trans h.tape, h2.output.trans h.output, h2.size.trans h.size, fun k hk => (h2.out k hk).trans (h.out k hk), fun k cs T hc => by
    obtain ⟨c1, a1, a2, a3⟩ := h.cells k cs T hc
    obtain ⟨c2, b1, b2, b3⟩ := h2.cells k c1 T a1
    exact ⟨c2, b1, b2.trans a2, fun hT => (b3 hT).trans (a3 hT)⟩⟩
theorem MkI.ints (h : MkI lo hi w w') : ∀ (k : Nat) (cs : Array Value), w.heap[k]? = some (.cells cs 3 (0, 0)) → ∃ cs', w'.heap[k]? = some (.cells cs' 3 (0, 0)) ∧ cs'.size = cs.size := fun k cs hc => by
  obtain ⟨cs', a1, a2, _⟩ := h.cells k cs _ hc
  exact ⟨cs', a1, a2⟩
theorem MkI.o (h : MkI lo hi w w') : MkO lo hi w w' := ⟨h.os, h.tape, h.output, h.size, h.out, h.ints⟩
theorem MkO.refl (lo hi : Nat) (w : World) : MkO lo hi w w := ⟨rfl, rfl, rfl, rfl, fun _ _ => rfl, fun _ cs h => ⟨cs, h, rfl⟩⟩
theorem MkO.trans (h : MkO lo hi w w') (h2 : MkO lo hi w' w'') : MkO lo hi w w'' :=
  ⟨h2.os.trans h.os, h2.tape.trans h.tape, h2.output.trans h.output, h2.size.trans h.size, fun k hk => (h2.out k hk).trans (h.out k hk), fun k cs hc => by
    obtain ⟨c1, a1, a2⟩ := h.ints k cs hc
    obtain ⟨c2, b1, b2⟩ := h2.ints k c1 a1
    exact ⟨c2, b1, b2.trans a2⟩⟩
theorem MkO.below (h : MkO lo hi w w') : Below lo w w' := ⟨h.os, h.tape, h.output, by rw [h.size]; exact Nat.le_refl _, fun k hk => h.out k (.inl hk)⟩
theorem set_block {g o : Nat} {cs : Array Value} {T : TypeId} {v : Value} (h : w.heap[g]? = some (.cells cs T (0, 0))) (ho : o < cs.size) : ∃ cs', (w.setCell ⟨g, o, none⟩ v).heap[g]? = some (.cells cs' T (0, 0)) ∧ cs'.size = cs.size ∧ cs'[o]? = some v ∧ ∀ j, j ≠ o → cs'[j]? = cs[j]? := by
  have h' : w.heap[g]? = some (.cells cs.toList.toArray T (0, 0)) := by simpa using h
  have e := setCells_at [v] o h' (by simp; omega)
  refine ⟨_, e, by simp; omega, ?_, fun j hj => ?_⟩
  · simp only [List.getElem?_toArray, List.append_assoc]
    rw [List.getElem?_append_right (by simp; omega)]
    simp [show o - min o cs.size = 0 by omega]
  · simp only [List.getElem?_toArray, List.append_assoc]
    by_cases a1 : j < o
    · rw [List.getElem?_append_left (by simp; omega), List.getElem?_take_of_lt a1]; simp
    · rw [List.getElem?_append_right (by simp; omega)]
      have e1 : (cs.toList.take o).length = o := by simp; omega
      rw [e1, List.getElem?_append_right (by simp; omega), List.getElem?_drop]
      simp only [List.length_singleton]
      rw [show o + 1 + (j - o - 1) = j by omega]
      simp
theorem set_other {g o k : Nat} {v : Value} (h : k ≠ g) : (w.setCell ⟨g, o, none⟩ v).heap[k]? = w.heap[k]? := Below.heap_setCell w ⟨g, o, none⟩ v k h
theorem MkI.set {g o : Nat} {cs : Array Value} {v : Value} (h : w.heap[g]? = some (.cells cs 3 (0, 0))) (ho : o < cs.size) (h1 : lo ≤ g) (h2 : g < hi) : MkI lo hi w (w.setCell ⟨g, o, none⟩ v) := by
  obtain ⟨cs', e1, e2, _, _⟩ := set_block (v := v) h ho
  refine ⟨rfl, rfl, rfl, by simp [World.setCell], fun k hk => set_other (by omega), fun k c T hc => ?_⟩
  by_cases e : k = g
  · subst e
    rw [h] at hc
    simp only [Option.some.injEq, Obj.cells.injEq, and_true] at hc
    obtain ⟨rfl, rfl⟩ := hc
    exact ⟨cs', e1, e2, fun hT => absurd rfl hT⟩
  · exact ⟨c, by rw [set_other e]; exact hc, rfl, fun _ => rfl⟩
theorem MkO.set {g o : Nat} {cs : Array Value} {T : TypeId} {v : Value} (hT : T ≠ 3) (h : w.heap[g]? = some (.cells cs T (0, 0))) (h1 : lo ≤ g) (h2 : g < hi) : MkO lo hi w (w.setCell ⟨g, o, none⟩ v) :=
  ⟨rfl, rfl, rfl, by simp [World.setCell], fun k hk => set_other (by omega), fun k c hc => by
    have hne : k ≠ g := fun e => by
      subst e
      rw [h] at hc
      simp only [Option.some.injEq, Obj.cells.injEq, and_true] at hc
      exact hT hc.2
    exact ⟨c, by rw [set_other hne]; exact hc, rfl⟩⟩
/-- A slice of numbers in a block from lo to hi. -/
def IntB (lo hi : Nat) (w : World) (A : Option Addr) (n : Nat) : Prop := 0 < n → ∃ (g o : Nat) (cs : Array Value), A = some ⟨g, o, none⟩ ∧ lo ≤ g ∧ g < hi ∧ w.heap[g]? = some (.cells cs 3 (0, 0)) ∧ o + n ≤ cs.size
theorem IntB.mk {A : Option Addr} {n : Nat} (h : IntB lo hi w A n) (hm : ∀ (k : Nat) (cs : Array Value), w.heap[k]? = some (.cells cs 3 (0, 0)) → ∃ cs', w'.heap[k]? = some (.cells cs' 3 (0, 0)) ∧ cs'.size = cs.size) : IntB lo hi w' A n := fun hn => by
  obtain ⟨g, o, cs, h1, h2, h3, h4, h5⟩ := h hn
  obtain ⟨cs', g1, g2⟩ := hm g cs h4
  exact ⟨g, o, cs', h1, h2, h3, g1, by omega⟩
theorem IntB.own {B n c : Nat} {A : Option Addr} {xs : List Value} (h : w.ownsRow B 3 1 (.slice A n c) n xs) (hB : lo ≤ B) (hw : w.heap.size ≤ hi) : IntB lo hi w A n := fun hn => by
  rcases h.2 with ⟨h1, h2⟩ | ⟨g, cap, cur, hv, hg, hc, hle, _, hsz, _⟩
  · cases h1; omega
  · simp only [Value.slice.injEq, true_and] at hv
    obtain ⟨rfl, _⟩ := hv
    have hlt := (Array.getElem?_eq_some_iff.1 hc).1
    exact ⟨g, 0, cur, rfl, by omega, by omega, hc, by omega⟩
end
set_option maxHeartbeats 1000000 in
theorem markIntS_f {lo hi n c : Nat} {A : Option Addr} {k0 : Int} {w : World} (h : IntB lo hi w A n) (hn : n ≤ 4194304) (hk0 : 0 ≤ k0) (hk1 : k0 ≤ 4611686018427387904) :
    Calls Try.prog 18 #[.slice A n c, .int .i64 k0] w fun e w' => e = .returned (.int .i64 (k0 + n)) ∧ MkI lo hi w w' := by
  go_enter Try.func18, Try.ntmps18
  go_wp2
  go_loopw [1, 5] (fun kk i wr => ∃ j : Nat, j ≤ n ∧ i = .int .i64 j ∧ kk = .int .i64 (k0 + j) ∧ MkI lo hi w wr) (fun _ i _ => n - (intOf i).toNat)
  case atStart => exact ⟨0, Nat.zero_le _, rfl, by simp, MkI.refl _ _ _⟩
  case round =>
    obtain ⟨j, hj, rfl, rfl, hM⟩ := hrel
    by_cases hlt : j < n
    · have h2 := h.mk hM.ints
      obtain ⟨g, o, cs, rfl, h3, h4, h5, h6⟩ := h2 (by omega)
      have f0 : wr.cell? ⟨g, o + j, none⟩ = some (cs[o + j]'(by omega)) := by rw [cell_of_row wr g _ cs _ (0, 0) h5]; exact Array.getElem?_eq_getElem _
      have z0 : wr.frozen? ⟨g, o + j, none⟩ = false := frozen_of_row wr g _ cs _ h5
      have HM := Lib.hid (hM.trans (MkI.set (v := .int .i64 (k0 + j)) (o := o + j) h5 (by omega) h3 h4))
      clear hM h2 h5
      generalize cs[o + j] = u at f0
      go_wp2
      go_roundw
      case rel => exact ⟨j + 1, by omega, by go_num, by congr 1; omega, HM.out⟩
      case measure => simp [intOf]; omega
    · obtain rfl : j = n := by omega
      go_wp2
      go_ret
      exact ⟨rfl, hM⟩
/-- Rules in blocks from lo to hi. -/
def ApB (lo hi : Nat) (w : World) (A : Option Addr) (n : Nat) : Prop := 0 < n → ∃ (g o : Nat) (cs : Array Value), A = some ⟨g, o, none⟩ ∧ lo ≤ g ∧ g < hi ∧ w.heap[g]? = some (.cells cs 58 (0, 0)) ∧ o + n * 2 ≤ cs.size ∧
  ∀ j, j < n → ∃ (A' : Option Addr) (m c' : Nat) (z : Int), cs[o + j * 2]? = some (.slice A' m c') ∧ m ≤ 2097152 ∧ IntB lo hi w A' m ∧ cs[o + j * 2 + 1]? = some (.int .i64 z)
theorem ApB.own {lo hi c : Nat} {A : Option Addr} {l : ApL} {w : World} (h : OwnG (apO lo) lo 58 2 w (.slice A l.length c) l) (hf : FewAp 1048576 l) (hw : w.heap.size ≤ hi) : ApB lo hi w A l.length := fun hn => by
  obtain ⟨A', c', xs, e, ho, hc⟩ := h
  cases e
  rcases ho.2 with ⟨h1, h2⟩ | ⟨g, cap, cur, hv, hg, hcur, hle, _, hsz, hxs⟩
  · simp only [Value.slice.injEq] at h1; omega
  · simp only [Value.slice.injEq, true_and] at hv
    obtain ⟨rfl, _⟩ := hv
    have hlt := (Array.getElem?_eq_some_iff.1 hcur).1
    have hcell : ∀ j, j < l.length * 2 → cur[j]? = xs[j]? := fun j hj => by
      have := ho.cellAt j hj
      rw [cell_of_row w g _ cur _ (0, 0) hcur] at this
      exact this
    refine ⟨g, 0, cur, rfl, hg, by omega, hcur, by omega, fun j hj => ?_⟩
    obtain ⟨cs, g1, ⟨v, rfl, A2, c2, rfl, g3⟩, g2⟩ := hc.at j hj
    have hl := hf j hj
    rw [ap0, apAt_eq hj] at hl
    replace hl : (apN.inner l[j]).length ≤ 1048576 := hl
    refine ⟨A2, _, c2, apf1 l[j], ?_, by omega, IntB.own g3 (Nat.le_refl _) hw, ?_⟩
    · rw [Nat.zero_add, hcell _ (by omega)]; exact g2 0 _ rfl
    · rw [Nat.zero_add, hcell _ (by omega)]; exact g2 1 _ rfl
set_option maxHeartbeats 1000000 in
theorem markApartS_f {lo hi n c : Nat} {A : Option Addr} {k0 : Int} {w : World} (h : ApB lo hi w A n) (hn : n ≤ 2097152) (hk0 : 0 ≤ k0) (hk1 : k0 ≤ 1000) :
    Calls Try.prog 17 #[.slice A n c, .int .i64 k0] w fun e w' => ∃ k1 : Int, e = .returned (.int .i64 k1) ∧ (0 ≤ k1 ∧ k1 ≤ 5000000000000) ∧ MkO lo hi w w' := by
  go_enter Try.func17, Try.ntmps17
  go_wp2
  go_loopw [1, 5] (fun kk i wr => ∃ (j : Nat) (k : Int), j ≤ n ∧ i = .int .i64 j ∧ kk = .int .i64 k ∧ (0 ≤ k ∧ k ≤ 1000 + j * 2097153) ∧ ApB lo hi wr A n ∧ MkO lo hi w wr) (fun _ i _ => n - (intOf i).toNat)
  case atStart => exact ⟨0, k0, Nat.zero_le _, rfl, rfl, by omega, h, MkO.refl _ _ _⟩
  case round =>
    clear h
    obtain ⟨j, k, hj, rfl, rfl, ⟨k0', k1'⟩, hA, hM⟩ := hrel
    by_cases hlt : j < n
    · obtain ⟨g, o, cs, rfl, h3, h4, h5, h6, h7⟩ := hA (by omega)
      obtain ⟨A', m, c', z, d0, dm, d2, d1⟩ := h7 j hlt
      have f0 : wr.cell? ⟨g, o + j * 2, none⟩ = some (.slice A' m c') := by rw [cell_of_row wr g _ cs _ (0, 0) h5]; exact d0
      have H7 := Lib.hid h7
      have H5 := Lib.hid h5
      clear hA h5 h7 d0 d1
      go_wp2_with fail
      refine (markIntS_f d2 (by omega) (by omega) (by omega)).mono ?_
      rintro e w1 ⟨rfl, hI⟩
      obtain ⟨cs1, a1, _, a3⟩ := hI.cells g cs _ H5.out
      obtain rfl : cs1 = cs := a3 (by decide)
      obtain ⟨A9, m9, c9, z9, e0, em, e2, e1⟩ := H7.out j hlt
      have f1 : w1.cell? ⟨g, o + j * 2 + 1, none⟩ = some (.int .i64 z9) := by rw [cell_of_row w1 g _ cs1 _ (0, 0) a1]; exact e1
      have z1 : w1.frozen? ⟨g, o + j * 2 + 1, none⟩ = false := frozen_of_row w1 g _ cs1 _ a1
      have HM := Lib.hid ((hM.trans hI.o).trans (MkO.set (g := g) (o := o + j * 2 + 1) (v := .int .i64 (k + m)) (by decide) a1 h3 h4))
      have HA : Hid (ApB lo hi (w1.setCell ⟨g, o + j * 2 + 1, none⟩ (.int .i64 (k + m))) (some ⟨g, o, none⟩) n) := Lib.hid (fun _ => by
        obtain ⟨cs', b1, b2, b3, b4⟩ := set_block (v := .int .i64 (k + m)) a1 (show o + j * 2 + 1 < cs1.size by omega)
        refine ⟨g, o, cs', rfl, h3, h4, b1, by omega, fun i hi' => ?_⟩
        obtain ⟨A8, m8, c8, z8, x0, xm, x2, x1⟩ := H7.out i hi'
        have hints : ∀ (q : Nat) (c : Array Value), w1.heap[q]? = some (.cells c 3 (0, 0)) → ∃ c', (w1.setCell ⟨g, o + j * 2 + 1, none⟩ (.int .i64 (k + m))).heap[q]? = some (.cells c' 3 (0, 0)) ∧ c'.size = c.size := fun q c hq => by
          have hne : q ≠ g := fun e => by
            subst e
            rw [a1] at hq
            simp only [Option.some.injEq, Obj.cells.injEq, and_true] at hq
            exact absurd hq.2 (by decide)
          exact ⟨c, by rw [set_other hne]; exact hq, rfl⟩
        refine ⟨A8, m8, c8, if i = j then k + m else z8, by rw [b4 _ (by omega)]; exact x0, xm, (x2.mk hI.ints).mk hints, ?_⟩
        by_cases e : i = j
        · subst e; rw [if_pos rfl]; exact b3
        · rw [if_neg e, b4 _ (by omega)]; exact x1)
      clear hM hI a1 a3 e0 e1 e2 d2
      go_wp2
      go_roundw
      case rel => exact ⟨j + 1, k + m + 1, by omega, by go_num, by go_num, by omega, HA.out, HM.out⟩
      case measure => simp [intOf]; omega
    · obtain rfl : j = n := by omega
      go_wp2
      go_ret
      exact ⟨k, rfl, by omega, hM⟩
theorem IntB.below {lo hi n : Nat} {A : Option Addr} {w w' : World} (h : IntB lo hi w A n) (hb : Below hi w w') : IntB lo hi w' A n := fun hn => by
  obtain ⟨g, o, cs, h1, h2, h3, h4, h5⟩ := h hn
  exact ⟨g, o, cs, h1, h2, h3, (hb.block g h3).trans h4, h5⟩
theorem ApB.below {lo hi n : Nat} {A : Option Addr} {w w' : World} (h : ApB lo hi w A n) (hb : Below hi w w') : ApB lo hi w' A n := fun hn => by
  obtain ⟨g, o, cs, h1, h2, h3, h4, h5, h6⟩ := h hn
  refine ⟨g, o, cs, h1, h2, h3, (hb.block g h3).trans h4, h5, fun j hj => ?_⟩
  obtain ⟨A', m, c', z, x0, xm, x2, x1⟩ := h6 j hj
  exact ⟨A', m, c', z, x0, xm, x2.below hb, x1⟩
theorem own_same {B sz n : Nat} {e : TypeId} {w w' : World} {v : Value} {xs : List Value} {lo hi : Nat} (h : w.ownsRow B e sz v n xs) (hm : MkO lo hi w w') (hne : ∀ k, v.ownBlock = some k → k < lo ∨ hi ≤ k) : w'.ownsRow B e sz v n xs := by
  rcases h with ⟨h1, h2 | ⟨g, cap, cur, hv, hg, hc, hrest⟩⟩
  · exact ⟨h1, .inl h2⟩
  · have := hm.out g (hne g (by rw [hv]; rfl))
    exact ⟨h1, .inr ⟨g, cap, cur, hv, hg, this.trans hc, hrest⟩⟩
end Go.Proofs.Ytbimcababidjgaa
