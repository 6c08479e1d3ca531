/- Guards that are added, by the reference: the whole. -/
import Derived.Test.YtodjokdaofefdaaGreatQ9
import Derived.Test.YtodjokdaofefdaaGreatQ8
import Derived.Test.YtodjokdaofefdaaGreatQ10
import Derived.Test.YtodjokdaofefdaaGreatQ4
import Derived.Test.YtodjokdaofefdaaGreatQ5
namespace Go.Proofs.YtodjokdaofefdaaGreat
set_option linter.unusedSimpArgs false
set_option linter.unusedVariables false
open Go.RowKit

/-- An expression whose parts stand in blocks of which P holds. -/
def exP (P : Nat → Prop) : Nat → World → Ex → List Value → Prop
  | 0, _, _, _ => False
  | d + 1, w, t, cs => ∃ A c, cs = exHead t (.slice A t.ps.length c) ∧ RdL (exP P d) 4 w A t.ps ∧ (0 < t.ps.length → ∀ a, A = some a → P a.block) ∧ t.s.size ≤ 9223372036854775807
def exQ (P : Nat → Prop) (d : Nat) (w : World) (A : Option Addr) (l : ExL) : Prop := RdL (exP P d) 4 w A l ∧ (0 < l.length → ∀ a, A = some a → P a.block)
section
variable {P P' : Nat → Prop} {w w' : World} {A : Option Addr} {l : ExL}
theorem exP.keep (hk : ∀ k, P k → P' k ∧ w'.heap[k]? = w.heap[k]?) : ∀ {d d' : Nat} {t : Ex} {cs : List Value}, d ≤ d' → exP P d w t cs → exP P' d' w' t cs
  | 0, _, _, _, _, h => h.elim
  | d + 1, 0, _, _, hd, _ => by omega
  | d + 1, d' + 1, t, cs, hd, ⟨A, c, e, h3, h4, h5⟩ => ⟨A, c, e, RdL.keep h3 (fun _ _ h => exP.keep hk (by omega) h) (fun hn a ha => (hk _ (h4 hn a ha)).2), fun hn a ha => (hk _ (h4 hn a ha)).1, h5⟩
theorem exQ.keep {d d' : Nat} (h : exQ P d w A l) (hd : d ≤ d') (hk : ∀ k, P k → P' k ∧ w'.heap[k]? = w.heap[k]?) : exQ P' d' w' A l :=
  ⟨RdL.keep h.1 (fun _ _ h => exP.keep hk hd h) (fun hn a ha => (hk _ (h.2 hn a ha)).2), fun hn a ha => (hk _ (h.2 hn a ha)).1⟩
theorem exR.p {lo hi : Nat} : ∀ {d : Nat} {t : Ex} {cs : List Value}, (∀ k, lo ≤ k → k < hi → P k) → exR d lo hi w t cs → exP P d w t cs
  | 0, _, _, _, h => h.elim
  | d + 1, t, cs, hP, ⟨A, c, e, h3, h4, h5⟩ => ⟨A, c, e, RdL.keep h3 (fun _ _ h => exR.p hP h) (fun _ _ _ => rfl), fun hn a ha => hP _ (h4 hn a ha).1 (h4 hn a ha).2, h5⟩
theorem exS.q {d lo hi : Nat} (h : exS d lo hi w A l) (hP : ∀ k, lo ≤ k → k < hi → P k) : exQ P d w A l :=
  ⟨RdL.keep h.1 (fun _ _ h => exR.p hP h) (fun _ _ _ => rfl), fun hn a ha => hP _ (h.2 hn a ha).1 (h.2 hn a ha).2⟩
theorem exP.r {lo hi : Nat} : ∀ {d : Nat} {t : Ex} {cs : List Value}, (∀ k, P k → lo ≤ k ∧ k < hi) → exP P d w t cs → exR d lo hi w t cs
  | 0, _, _, _, h => h.elim
  | d + 1, t, cs, hP, ⟨A, c, e, h3, h4, h5⟩ => ⟨A, c, e, RdL.keep h3 (fun _ _ h => exP.r hP h) (fun _ _ _ => rfl), fun hn a ha => hP _ (h4 hn a ha), h5⟩
theorem exQ.s {d lo hi : Nat} (h : exQ P d w A l) (hP : ∀ k, P k → lo ≤ k ∧ k < hi) : exS d lo hi w A l :=
  ⟨RdL.keep h.1 (fun _ _ h => exP.r hP h) (fun _ _ _ => rfl), fun hn a ha => hP _ (h.2 hn a ha)⟩
end
/-- As it reads from block lo on without block g. -/
def exG (lo g d : Nat) (w : World) (A : Option Addr) (l : ExL) : Prop := exQ (fun k => lo ≤ k ∧ k ≠ g ∧ k < w.heap.size) d w A l
section
variable {lo g d d' : Nat} {w w' : World} {A : Option Addr} {l : ExL}
theorem exG.toW (h : exG lo g d w A l) : exW d w A l := h.s (fun k hk => ⟨Nat.zero_le _, hk.2.2⟩)
theorem exG.below (h : exG lo g d w A l) (hb : Below w.heap.size w w') : exG lo g d w' A l := exQ.keep h (Nat.le_refl _) (fun k hk => ⟨⟨hk.1, hk.2.1, Nat.lt_of_lt_of_le hk.2.2 hb.size⟩, hb.block k hk.2.2⟩)
theorem exG.grown (h : exG lo g d w A l) (hg : w.grownBy w' (some g)) : exG lo g d w' A l := exQ.keep h (Nat.le_refl _) (fun k hk => ⟨⟨hk.1, hk.2.1, Nat.lt_of_lt_of_le hk.2.2 hg.size⟩, hg.block k hk.2.2 (fun e => hk.2.1 (by cases e; rfl))⟩)
theorem exG.low {row : Option Nat} (h : exG lo g d w A l) (hg : w.grownBy w' row) (hr : ∀ k, row = some k → k < lo) : exG lo g d w' A l := exQ.keep h (Nat.le_refl _) (fun k hk => ⟨⟨hk.1, hk.2.1, Nat.lt_of_lt_of_le hk.2.2 hg.size⟩, hg.block k hk.2.2 (fun e => by have := hr k e.symm; omega)⟩)
theorem exG.deeper (h : exG lo g d w A l) (hd : d ≤ d') : exG lo g d' w A l := exQ.keep h hd (fun _ hk => ⟨hk, rfl⟩)
/-- A row of two, laid anew. -/
theorem exG.two {b c1 c2 : Nat} {A1 A2 : Option Addr} {t1 t2 : Ex} (hb : w.heap[b]? = some (.cells #[.int .i64 t1.k, .int .i64 t1.n, .string t1.s, .slice A1 t1.ps.length c1, .int .i64 t2.k, .int .i64 t2.n, .string t2.s, .slice A2 t2.ps.length c2] 36 (0, 0))) (h0 : lo ≤ b) (hg : b ≠ g)
    (h1 : exG lo g d w A1 t1.ps) (h2 : exG lo g d w A2 t2.ps) (s1 : t1.s.size ≤ 9223372036854775807) (s2 : t2.s.size ≤ 9223372036854775807) : exG lo g (d + 1) w (some ⟨b, 0, none⟩) [t1, t2] := by
  refine ⟨⟨by simp, fun _ => ⟨b, 0, rfl, fun k hk => ?_⟩⟩, fun _ a ha => ?_⟩
  · match k, hk with
    | 0, _ => exact ⟨_, rfl, ⟨A1, c1, rfl, h1.1, h1.2, s1⟩, fun j v hv => by
        rw [cell_of_row w b _ _ _ (0, 0) hb]
        match j, hv with
        | 0, hv => exact hv
        | 1, hv => exact hv
        | 2, hv => exact hv
        | 3, hv => exact hv
        | n + 4, hv => simp [exHead] at hv⟩
    | 1, _ => exact ⟨_, rfl, ⟨A2, c2, rfl, h2.1, h2.2, s2⟩, fun j v hv => by
        rw [cell_of_row w b _ _ _ (0, 0) hb]
        match j, hv with
        | 0, hv => exact hv
        | 1, hv => exact hv
        | 2, hv => exact hv
        | 3, hv => exact hv
        | n + 4, hv => simp [exHead] at hv⟩
    | n + 2, hk => exact absurd hk (by simp)
  · cases ha
    exact ⟨h0, hg, (Array.getElem?_eq_some_iff.1 hb).1⟩
end
theorem cells4 {w : World} {g : Nat} {T : TypeId} {a b c d : Value} (h : w.heap[g]? = some (.cells #[a, b, c, d] T (0, 0))) : w.cell? ⟨g, 0, none⟩ = some a ∧ w.cell? ⟨g, 1, none⟩ = some b ∧ w.cell? ⟨g, 2, none⟩ = some c ∧ w.cell? ⟨g, 3, none⟩ = some d :=
  ⟨(cell_of_row w g 0 _ _ _ h).trans rfl, (cell_of_row w g 1 _ _ _ h).trans rfl, (cell_of_row w g 2 _ _ _ h).trans rfl, (cell_of_row w g 3 _ _ _ h).trans rfl⟩
theorem froz4 {w : World} {g : Nat} {T : TypeId} {cs : Array Value} (h : w.heap[g]? = some (.cells cs T (0, 0))) : w.frozen? ⟨g, 0, none⟩ = false ∧ w.frozen? ⟨g, 1, none⟩ = false ∧ w.frozen? ⟨g, 2, none⟩ = false ∧ w.frozen? ⟨g, 3, none⟩ = false :=
  ⟨frozen_of_row w g 0 _ _ h, frozen_of_row w g 1 _ _ h, frozen_of_row w g 2 _ _ h, frozen_of_row w g 3 _ _ h⟩
/-- A box with an expression. -/
def ExBx (g : Nat) (t : Ex) (w : World) (A : Option Addr) (c : Nat) : Prop := w.heap[g]? = some (.cells #[.int .i64 t.k, .int .i64 t.n, .string t.s, .slice A t.ps.length c] 36 (0, 0))
def GbH (lo g d : Nat) (t : Ex) (W w : World) : Prop := ∃ A c, ExBx g t w A c ∧ exG lo g d w A t.ps ∧ Below g W w
theorem GbH.below {lo g d : Nat} {t : Ex} {W w w' : World} (h : GbH lo g d t W w) (hb : Below w.heap.size w w') : GbH lo g d t W w' := by
  obtain ⟨A, c, h1, h2, h3⟩ := h
  have hg := (Array.getElem?_eq_some_iff.1 h1).1
  exact ⟨A, c, block_below h1 hb, h2.below hb, h3.trans (hb.mono (by omega))⟩
def ExG (lo g d : Nat) (r : Ex) (w : World) (v : Value) : Prop := ∃ A c, v = .agg #[.int .i64 r.k, .int .i64 r.n, .string r.s, .slice A r.ps.length c] ∧ exG lo g d w A r.ps
theorem ExG.below {lo g d : Nat} {r : Ex} {w w' : World} {v : Value} (h : ExG lo g d r w v) (hb : Below w.heap.size w w') : ExG lo g d r w' v := let ⟨A, c, e, h⟩ := h; ⟨A, c, e, h.below hb⟩
def TwG (lo g d : Nat) (t1 t2 : Ex) (w : World) (v : Value) : Prop := ∃ b, v = .slice (some ⟨b, 0, none⟩) 2 2 ∧ exG lo g d w (some ⟨b, 0, none⟩) [t1, t2]
theorem TwG.below {lo g d : Nat} {t1 t2 : Ex} {w w' : World} {v : Value} (h : TwG lo g d t1 t2 w v) (hb : Below w.heap.size w w') : TwG lo g d t1 t2 w' v := let ⟨b, e, h⟩ := h; ⟨b, e, h.below hb⟩
theorem join_s {t : Ex} (hs : t.s.size ≤ 9223372036854775807) : ∀ l : ExL, (joinE l t).s.size ≤ 9223372036854775807
  | [] => hs
  | _ :: _ => by show ByteArray.empty.size ≤ _; simp
/-- What GuardedBy leaves. -/
def GbPost (d : Nat) (r : Ex) (w : World) (e : Ending) (w' : World) : Prop := ∃ A c, e = .returned (.tuple #[.agg #[.int .i64 (gbE d r).k, .int .i64 (gbE d r).n, .string (gbE d r).s, .slice A (gbE d r).ps.length c], .bool (gbB d r)]) ∧ exW (d + (gbL d r).length) w' A (gbE d r).ps ∧ Below w.heap.size w w'
theorem gb_no {d : Nat} {r : Ex} (h : gbB d r = false) : gbE d r = exD := by rw [gbE, h]; rfl
theorem gb_yes {d : Nat} {r : Ex} (h : gbB d r = true) : gbE d r = gbO d r := by rw [gbE, if_pos h]
theorem GbPost.no {d : Nat} {r : Ex} {w w' : World} (h : gbB d r = false) (hb : Below w.heap.size w w') : GbPost d r w (.returned (.tuple #[.agg #[.int .i64 0, .int .i64 0, .string ⟨#[]⟩, .slice Option.none 0 0], .bool false])) w' := by
  refine ⟨Option.none, 0, ?_, ?_, hb⟩
  · rw [h, gb_no h]; rfl
  · rw [gb_no h]; exact exS.nil
theorem in_cnt {d : Nat} {t : Ex} (h : inD d t) {C : Nat} (hc : cntR d t ≤ C) : ∀ m, cntR m t ≤ C := fun m => Nat.le_trans (cnt_max d t m h) hc
end Go.Proofs.YtodjokdaofefdaaGreat
/- Values, fields, worlds and requests: whether they are valid, by the program. -/
namespace Go.Proofs.YtodjokdaofefdaaGreat
set_option linter.unusedSimpArgs false
set_option linter.unusedVariables false
open Go.RowKit

set_option maxRecDepth 100000 in
set_option maxHeartbeats 2000000 in
theorem implValueValid (k n : Int) (many : Nat) (w : World) :
    Calls Tryz.prog 74 #[.agg #[.int .i64 k, .int .i64 n], .int .i64 many] w fun e w' => e = .returned (.bool (vlB k n many)) ∧ Below w.heap.size w w' := by
  by_cases h1 : k = 1
  · subst h1
    have HE : Hid (vlB 1 n many = inB n 0 1) := Lib.hid rfl
    go_enter Tryz.func74, Tryz.ntmps74
    go_wp2_with fail
    refine (in_any _ _ _ _).mono ?_
    rintro e w1 ⟨rfl, hb⟩
    have hB := ext_trans (show Below w.heap.size w _ by (repeat (first | exact Below.refl _ _ | refine ext_alloc ?_ _ | refine Below.setCell ?_ (by simp) _))) hb
    clear hb
    go_wp2
    go_ret
    exact ⟨by rw [HE.out]; rfl, hB⟩
  · by_cases h2 : k = 2
    · subst h2
      have HE : Hid (vlB 2 n many = inB n 0 99) := Lib.hid rfl
      go_enter Tryz.func74, Tryz.ntmps74
      go_wp2_with fail
      refine (in_any _ _ _ _).mono ?_
      rintro e w1 ⟨rfl, hb⟩
      have hB := ext_trans (show Below w.heap.size w _ by (repeat (first | exact Below.refl _ _ | refine ext_alloc ?_ _ | refine Below.setCell ?_ (by simp) _))) hb
      clear hb
      go_wp2
      go_ret
      exact ⟨by rw [HE.out]; rfl, hB⟩
    · by_cases h3 : k = 3
      · subst h3
        have HE : Hid (vlB 3 n many = (decide (0 ≤ n) && decide (n < many))) := Lib.hid rfl
        by_cases ha : 0 ≤ n
        · by_cases hb : n < many
          · have HF : Hid (vlB 3 n many = true) := Lib.hid (by rw [HE.out]; simp [ha, hb])
            go_enter Tryz.func74, Tryz.ntmps74
            go_wp2
            go_ret
            exact ⟨by rw [HF.out]; rfl, below_alloc _ _⟩
          · have HF : Hid (vlB 3 n many = false) := Lib.hid (by rw [HE.out]; simp [hb])
            go_enter Tryz.func74, Tryz.ntmps74
            go_wp2
            go_ret
            exact ⟨by rw [HF.out]; rfl, below_alloc _ _⟩
        · have HF : Hid (vlB 3 n many = false) := Lib.hid (by rw [HE.out]; simp [ha])
          go_enter Tryz.func74, Tryz.ntmps74
          go_wp2
          go_ret
          exact ⟨by rw [HF.out]; rfl, below_alloc _ _⟩
      · have HF : Hid (vlB k n many = false) := Lib.hid (by unfold vlB; rw [if_neg h1, if_neg h2, if_neg h3])
        have b1 : (k == 1) = false := by simpa using h1
        have b2 : (k == 2) = false := by simpa using h2
        have b3 : (k == 3) = false := by simpa using h3
        clear h1 h2 h3
        go_enter Tryz.func74, Tryz.ntmps74
        go_wp2
        go_ret
        exact ⟨by rw [HF.out]; rfl, below_alloc _ _⟩
theorem fds_no {many : Nat} {l : FdL} {k : Nat} (hk : k < l.length) (h : ¬ FdP many l k) : fdsOk many l = false := cD_no (fun hh => h (hh.1 k hk))
def seenFd (l : FdL) : Nat → ByteArray → Bool
  | 0 => fun _ => false
  | k + 1 => fun z => if z = fd0 l k then true else seenFd l k z
theorem seenFd_iff (l : FdL) : ∀ (k : Nat) (z : ByteArray), seenFd l k z = true ↔ ∃ j, j < k ∧ fd0 l j = z
  | 0, z => by simp [seenFd]
  | k + 1, z => by
    by_cases e : z = fd0 l k
    · simp only [seenFd, if_pos e, true_iff]; exact ⟨k, by omega, e.symm⟩
    · simp only [seenFd, if_neg e]
      rw [seenFd_iff l k z]
      constructor
      · rintro ⟨j, h1, h2⟩; exact ⟨j, by omega, h2⟩
      · rintro ⟨j, h1, h2⟩
        by_cases e2 : j = k
        · subst e2; exact absurd h2.symm e
        · exact ⟨j, by omega, h2⟩
set_option maxRecDepth 100000 in
set_option maxHeartbeats 4000000 in
theorem implFieldsValid {A : Option Addr} {l : FdL} {c many : Nat} {w : World} (hU : fdR w A l) (hw : WfFd l) :
    Calls Tryz.prog 56 #[.slice A l.length c, .int .i64 many] w fun e w' => e = .returned (.bool (fdsOk many l)) ∧ Below w.heap.size w w' := by
  have hmm := @run_makeMap Tryz.prog
  have hlen := hU.len
  have HWF := Lib.hid hw
  have hM0 := MapS.made w
  obtain ⟨bm, hbm⟩ : ∃ b, b = w.heap.size := ⟨_, rfl⟩
  rw [← hbm] at hM0
  have hWb : w.heap.size ≤ bm := by omega
  have HM0 := Lib.hid hM0
  have HB := Lib.hid hbm
  clear hbm hM0 hw
  go_enter Tryz.func56, Tryz.ntmps56
  go_wp2_with fail
  rw [← HB.out]
  go_loopw [11] (fun i wr => ∃ k : Nat, k ≤ l.length ∧ i = .int .i64 k ∧ MapS wr bm k (seenFd l k) ∧ Hid (∀ j, j < k → FdP many l j) ∧ Below w.heap.size w wr) (fun i _ => l.length - (intOf i).toNat)
  case atStart => exact ⟨0, Nat.zero_le _, rfl, HM0.out, Lib.hid (fun j h => by omega), below_alloc _ _⟩
  case round =>
    clear HM0 HB
    obtain ⟨k, hk, rfl, hM, HG, hB⟩ := hrel
    by_cases hlt : k < l.length
    · obtain ⟨b, off, rfl, hc⟩ := hU.cells (by omega)
      obtain ⟨c0, c1, c2⟩ := hc k hlt
      replace c0 := below_cell hB c0
      replace c1 := below_cell hB c1
      replace c2 := below_cell hB c2
      have hsz := HWF.out.at hlt
      have hszm : (fd0 l k).size ≤ maxLen := hsz
      have HSF : Hid (∀ z, (if z = fd0 l k then true else seenFd l k z) = seenFd l (k + 1) z) := Lib.hid (fun _ => rfl)
      clear hc
      have hbl := below_alloc wr (.cells #[.string (fd0 l k), .int .i64 (fd1 l k), .int .i64 (fd2 l k)] 89)
      obtain ⟨X, hX⟩ : ∃ X, X = wr.alloc (.cells #[.string (fd0 l k), .int .i64 (fd1 l k), .int .i64 (fd2 l k)] 89) := ⟨_, rfl⟩
      obtain ⟨g, hg⟩ : ∃ g, g = wr.heap.size := ⟨_, rfl⟩
      have y0 := box_cell wr #[.string (fd0 l k), .int .i64 (fd1 l k), .int .i64 (fd2 l k)] 89 0 _ rfl
      have y1 := box_cell wr #[.string (fd0 l k), .int .i64 (fd1 l k), .int .i64 (fd2 l k)] 89 1 _ rfl
      have y2 := box_cell wr #[.string (fd0 l k), .int .i64 (fd1 l k), .int .i64 (fd2 l k)] 89 2 _ rfl
      rw [← hX] at hbl y0 y1 y2
      rw [← hg] at y0 y1 y2
      replace hB := ext_trans hB hbl
      replace hM := hM.below hbl
      have HX := Lib.hid hX
      have HGG := Lib.hid hg
      clear hX hg hbl
      go_wp2_with fail
      rw [← HX.out, ← HGG.out]
      clear c0 c1 c2
      refine (implNameValid _ hsz _).mono ?_
      rintro e w1 ⟨rfl, hb⟩
      replace hB := ext_trans hB hb
      replace hM := hM.below hb
      replace y0 := below_cell hb y0
      replace y1 := below_cell hb y1
      replace y2 := below_cell hb y2
      clear hb
      cases g1 : nmOk (fd0 l k)
      · have HE : Hid (fdsOk many l = false) := Lib.hid (fds_no hlt (fun h => by rw [h.1] at g1; cases g1))
        go_wp2
        go_ret
        exact ⟨by rw [HE.out]; rfl, hB⟩
      · have H1 := Lib.hid g1
        clear g1
        have hlook := hM.look hszm
        cases g3 : seenFd l k (fd0 l k)
        · rw [g3] at hlook
          have HNS : Hid (∀ j, j < k → fd0 l j ≠ fd0 l k) := Lib.hid (fun j hj e => by rw [(seenFd_iff l k _).2 ⟨j, hj, e⟩] at g3; cases g3)
          clear g3
          go_wp2_with fail
          refine (implValueValid _ _ _ _).mono ?_
          rintro e w2 ⟨rfl, hb⟩
          replace hB := ext_trans hB hb
          replace hM := hM.below hb
          replace y0 := below_cell hb y0
          clear hb hlook y1 y2
          cases g2 : vlB (fd1 l k) (fd2 l k) many
          · have HE : Hid (fdsOk many l = false) := Lib.hid (fds_no hlt (fun h => by rw [h.2.1] at g2; cases g2))
            go_wp2
            go_ret
            exact ⟨by rw [HE.out]; rfl, hB⟩
          · have HP2 : Hid (∀ j, j < k + 1 → FdP many l j) := Lib.hid (all_succ (p := FdP many l) HG.out ⟨H1.out, g2, HNS.out⟩)
            go_wp2_with (at_mapUpdate; go_must (refine wpList_put_mapS rfl (.tmp 32) (.tmp 34) (.const (.bool true)) rfl hM rfl rfl rfl hszm (by omega) ?_); intro w4 hM4 hg4)
            have hC4 := ext_grown hB hg4 (fun k e => by cases e; exact hWb)
            clear hg4
            replace hM4 := hM4.ext HSF.out
            go_roundw
            case rel => exact ⟨k + 1, by omega, by go_num, hM4, HP2, hC4⟩
            case measure => simp [intOf]; omega
        · rw [g3] at hlook
          have HE : Hid (fdsOk many l = false) := Lib.hid (fds_no hlt (fun h => by
            obtain ⟨j, hj, e⟩ := (seenFd_iff l k _).1 g3
            exact h.2.2 j hj e))
          go_wp2
          go_ret
          exact ⟨by rw [HE.out]; rfl, hB⟩
    · obtain rfl : k = l.length := by omega
      by_cases g : l.length ≤ 4
      · have HE : Hid (fdsOk many l = true) := Lib.hid (cD_yes ⟨HG.out, g⟩)
        go_wp2
        go_ret
        exact ⟨ret_bool (by rw [HE.out]; simp; omega), hB⟩
      · have HE : Hid (fdsOk many l = false) := Lib.hid (cD_no (fun h => g h.2))
        go_wp2
        go_ret
        exact ⟨ret_bool (by rw [HE.out]; simp; omega), hB⟩
theorem wld_no {W : WL} {k : Nat} (hk : k < W.length) (h : ¬ ThP W k) : wldOk W = false := cD_no (fun hh => h (hh.1 k hk))
set_option maxRecDepth 100000 in
set_option maxHeartbeats 4000000 in
theorem implWorldValid {A : Option Addr} {W : WL} {c : Nat} {w : World} (hU : wlR w A W) (hw : WfW W) :
    Calls Tryz.prog 53 #[.slice A W.length c] w fun e w' => e = .returned (.bool (wldOk W)) ∧ Below w.heap.size w w' := by
  have hlen := hU.len
  have HWF := Lib.hid hw
  clear hw
  by_cases h7 : 7 < W.length
  · have HE : Hid (wldOk W = false) := Lib.hid (cD_no (fun h => by have := h.2; omega))
    go_enter Tryz.func53, Tryz.ntmps53
    go_wp2
    go_ret
    exact ⟨by rw [HE.out]; rfl, Below.refl _ _⟩
  · go_enter Tryz.func53, Tryz.ntmps53
    go_wp2
    go_loopw [10] (fun i wr => ∃ k : Nat, k ≤ W.length ∧ i = .int .i64 k ∧ Hid (∀ j, j < k → ThP W j) ∧ Below w.heap.size w wr) (fun i _ => W.length - (intOf i).toNat)
    case atStart => exact ⟨0, Nat.zero_le _, rfl, Lib.hid (fun j h => by omega), Below.refl _ _⟩
    case round =>
      obtain ⟨k, hk, rfl, HG, hB⟩ := hrel
      by_cases hlt : k < W.length
      · obtain ⟨b, off, rfl, hc⟩ := (hU.below hB).cells (by omega)
        obtain ⟨A1, c1, A2, c2, hr1, hr2, d0, d1⟩ := hc k hlt
        have hbl := below_alloc wr (.cells #[.slice A1 (thAt W k).gs.length c1, .slice A2 (thAt W k).fs.length c2] 65)
        have y0 := box_cell wr #[.slice A1 (thAt W k).gs.length c1, .slice A2 (thAt W k).fs.length c2] 65 0 _ rfl
        have y1 := box_cell wr #[.slice A1 (thAt W k).gs.length c1, .slice A2 (thAt W k).fs.length c2] 65 1 _ rfl
        replace hr1 := hr1.below hbl
        replace hr2 := hr2.below hbl
        replace hB := ext_trans hB hbl
        have HF := Lib.hid (HWF.out k hlt)
        clear hc hbl
        obtain ⟨q, hq⟩ : ∃ q, ascB (thAt W k).gs ((k : Int) - 1) = q := ⟨_, rfl⟩
        have HQ := Lib.hid hq
        clear hq
        go_wp2_with fail
        refine (ascends_any hr1 (by omega) (by omega)).mono ?_
        rintro e w1 ⟨rfl, hb⟩
        rw [HQ.out]
        replace hB := ext_trans hB hb
        replace y1 := below_cell hb y1
        replace hr2 := hr2.below hb
        clear hb y0 d0 d1 hr1
        cases q
        · have HE : Hid (wldOk W = false) := Lib.hid (wld_no hlt (fun h => by have := HQ.out.symm.trans h.1; cases this))
          go_wp2
          go_ret
          exact ⟨by rw [HE.out]; rfl, hB⟩
        · go_wp2_with fail
          refine (implFieldsValid hr2 HF.out).mono ?_
          rintro e w2 ⟨rfl, hb⟩
          replace hB := ext_trans hB hb
          clear hb y1 hr2
          cases g2 : fdsOk W.length (thAt W k).fs
          · have HE : Hid (wldOk W = false) := Lib.hid (wld_no hlt (fun h => by rw [fdsOk, cD_false] at g2; exact g2 h.2))
            go_wp2
            go_ret
            exact ⟨by rw [HE.out]; rfl, hB⟩
          · have HP2 : Hid (∀ j, j < k + 1 → ThP W j) := Lib.hid (all_succ (p := ThP W) HG.out ⟨HQ.out, cD_true.1 g2⟩)
            go_wp2
            go_roundw
            case rel => exact ⟨k + 1, by omega, by go_num, HP2, hB⟩
            case measure => simp [intOf]; omega
      · obtain rfl : k = W.length := by omega
        have HE : Hid (wldOk W = true) := Lib.hid (cD_yes ⟨HG.out, by omega⟩)
        go_wp2
        go_ret
        exact ⟨by rw [HE.out]; rfl, hB⟩
set_option maxHeartbeats 1000000 in
theorem isThing_any {A : Option Addr} {W : WL} {c : Nat} {n : Int} {w : World} (hl : W.length ≤ 9223372036854775807) :
    Calls Tryz.prog 54 #[.slice A W.length c, .int .i64 n] w fun e w' => e = .returned (.bool (thgB W n)) ∧ Below w.heap.size w w' := by
  go_enter Tryz.func54, Tryz.ntmps54
  go_wp2_with fail
  refine (in_any _ _ _ _).mono ?_
  rintro e w1 ⟨rfl, hb⟩
  go_wp2
  go_ret
  exact ⟨rfl, hb⟩
set_option maxHeartbeats 1000000 in
theorem isAct_any (n : Int) (w : World) : Calls Tryz.prog 55 #[.int .i64 n] w fun e w' => e = .returned (.bool (inB n 0 3)) ∧ Below w.heap.size w w' := by
  go_enter Tryz.func55, Tryz.ntmps55
  go_wp2_with fail
  refine (in_any _ _ _ _).mono ?_
  rintro e w1 ⟨rfl, hb⟩
  go_wp2
  go_ret
  exact ⟨rfl, hb⟩
set_option maxRecDepth 100000 in
set_option maxHeartbeats 4000000 in
theorem implRequestValid {A B : Option Addr} {W : WL} {r : Rq} {c c2 : Nat} {w : World} (hU : wlR w A W) (hw : WfW W) (hR : fdR w B r.fs) (hf : WfFd r.fs) :
    Calls Tryz.prog 27 #[.slice A W.length c, rqV r B c2] w fun e w' => e = .returned (.bool (rqOk W r)) ∧ Below w.heap.size w w' := by
  unfold rqV
  have hlen := hU.len
  have HF : Hid (rqOk W r = (wldOk W && (thgB W r.who && (thgB W r.what && (inB r.act 0 3 && fdsOk W.length r.fs))))) := Lib.hid rfl
  obtain ⟨X, hX⟩ : ∃ X, X = w.alloc (.cells #[.int .i64 r.who, .int .i64 r.act, .int .i64 r.what, .slice B r.fs.length c2] 33) := ⟨_, rfl⟩
  obtain ⟨g, hg⟩ : ∃ g, g = w.heap.size := ⟨_, rfl⟩
  have hB : Below w.heap.size w X := by rw [hX]; exact below_alloc _ _
  have hq : X.heap[g]? = some (.cells #[.int .i64 r.who, .int .i64 r.act, .int .i64 r.what, .slice B r.fs.length c2] 33 (0, 0)) := by rw [hX, hg]; exact heap_alloc_new _ _
  replace hU := hU.below hB
  replace hR := hR.below hB
  have HX := Lib.hid hX
  have HG := Lib.hid hg
  have HQ := Lib.hid hq
  obtain ⟨p0, p1, p2, p3⟩ := cells4 hq
  clear hX hg hq
  go_enter Tryz.func27, Tryz.ntmps27
  go_wp2_with fail
  rw [← HX.out, ← HG.out]
  refine (implWorldValid hU hw).mono ?_
  rintro e w1 ⟨rfl, hb⟩
  replace hB := ext_trans hB hb
  replace hR := hR.below hb
  have HQ := Lib.hid (block_in HQ.out hb)
  clear hb p0 p1 p2 p3
  obtain ⟨p0, p1, p2, p3⟩ := cells4 HQ.out
  cases g0 : wldOk W
  · rw [g0] at HF
    go_wp2
    go_ret
    exact ⟨by rw [HF.out]; rfl, hB⟩
  · rw [g0] at HF
    go_wp2_with fail
    refine (isThing_any hlen).mono ?_
    rintro e w2 ⟨rfl, hb⟩
    replace hB := ext_trans hB hb
    replace hR := hR.below hb
    have HQ := Lib.hid (block_in HQ.out hb)
    clear hb p0 p1 p2 p3
    obtain ⟨p0, p1, p2, p3⟩ := cells4 HQ.out
    cases g1 : thgB W r.who
    · rw [g1] at HF
      go_wp2
      go_ret
      exact ⟨by rw [HF.out]; rfl, hB⟩
    · rw [g1] at HF
      go_wp2_with fail
      refine (isThing_any hlen).mono ?_
      rintro e w3 ⟨rfl, hb⟩
      replace hB := ext_trans hB hb
      replace hR := hR.below hb
      have HQ := Lib.hid (block_in HQ.out hb)
      clear hb p0 p1 p2 p3
      obtain ⟨p0, p1, p2, p3⟩ := cells4 HQ.out
      cases g2 : thgB W r.what
      · rw [g2] at HF
        go_wp2
        go_ret
        exact ⟨by rw [HF.out]; rfl, hB⟩
      · rw [g2] at HF
        go_wp2_with fail
        refine (isAct_any _ _).mono ?_
        rintro e w4 ⟨rfl, hb⟩
        replace hB := ext_trans hB hb
        replace hR := hR.below hb
        have HQ := Lib.hid (block_in HQ.out hb)
        clear hb p0 p1 p2 p3
        obtain ⟨p0, p1, p2, p3⟩ := cells4 HQ.out
        cases g3 : inB r.act 0 3
        · rw [g3] at HF
          go_wp2
          go_ret
          exact ⟨by rw [HF.out]; rfl, hB⟩
        · rw [g3] at HF
          go_wp2_with fail
          refine (implFieldsValid hR hf).mono ?_
          rintro e w5 ⟨rfl, hb⟩
          replace hB := ext_trans hB hb
          replace hR := hR.below hb
          have HQ := Lib.hid (block_in HQ.out hb)
          clear hb p0 p1 p2 p3
          obtain ⟨p0, p1, p2, p3⟩ := cells4 HQ.out
          cases g4 : fdsOk W.length r.fs
          all_goals
            rw [g4] at HF
            go_wp2
            go_ret
            exact ⟨by rw [HF.out]; rfl, hB⟩
end Go.Proofs.YtodjokdaofefdaaGreat
/- Values of fields; truths; what is in a thing. -/
namespace Go.Proofs.YtodjokdaofefdaaGreat
set_option linter.unusedSimpArgs false
set_option linter.unusedVariables false
open Go.RowKit

def fdV (o : Option (Int × Int)) : Int × Int := o.getD (0, 0)
def fdVal (o : Option (Int × Int)) : Value := .tuple #[.agg #[.int .i64 (fdV o).1, .int .i64 (fdV o).2], .bool o.isSome]
set_option maxRecDepth 100000 in
set_option maxHeartbeats 2000000 in
theorem implFieldOf {A : Option Addr} {l : FdL} {c : Nat} {s : ByteArray} {w : World} (hU : fdR w A l) :
    Calls Tryz.prog 90 #[.slice A l.length c, .string s] w fun e w' => e = .returned (fdVal (fdOf l s)) ∧ Below w.heap.size w w' := by
  have hlen := hU.len
  obtain ⟨W, hW⟩ : ∃ W, W = w.alloc (.cells #[.int .i64 0, .int .i64 0] 87) := ⟨_, rfl⟩
  obtain ⟨g, hg⟩ : ∃ g, g = w.heap.size := ⟨_, rfl⟩
  have hB0 : Below w.heap.size w W := by rw [hW]; exact below_alloc _ _
  have hq : W.heap[g]? = some (.cells #[.int .i64 0, .int .i64 0] 87 (0, 0)) := by rw [hW, hg]; exact heap_alloc_new _ _
  replace hU := hU.below hB0
  have HQ := Lib.hid hq
  have HW := Lib.hid hW
  have HG := Lib.hid hg
  have HGG : Hid (w.heap.size ≤ g) := Lib.hid (Nat.le_of_eq hg.symm)
  clear hW hg hq
  go_enter Tryz.func90, Tryz.ntmps90
  go_wp2_with fail
  rw [← HW.out, ← HG.out]
  go_loopw [10] (fun i wr => ∃ k : Nat, k ≤ l.length ∧ i = .int .i64 k ∧ Hid (∀ j, j < k → fd0 l j ≠ s) ∧ Below W.heap.size W wr) (fun i _ => l.length - (intOf i).toNat)
  case atStart => exact ⟨0, Nat.zero_le _, rfl, Lib.hid (fun j h => by omega), Below.refl _ _⟩
  case round =>
    obtain ⟨k, hk, rfl, HN, hB⟩ := hrel
    have HQ1 := Lib.hid (block_in HQ.out hB)
    obtain ⟨z0, z1⟩ := cells2 HQ1.out
    obtain ⟨f0, f1⟩ := froz2 HQ1.out
    have hgl := (Array.getElem?_eq_some_iff.1 HQ1.out).1
    by_cases hlt : k < l.length
    · obtain ⟨b, off, rfl, hc⟩ := hU.cells (by omega)
      obtain ⟨c0, c1, c2⟩ := hc k hlt
      replace c0 := below_cell hB c0
      replace c1 := below_cell hB c1
      replace c2 := below_cell hB c2
      have y0 := box_cell wr #[.string (fd0 l k), .int .i64 (fd1 l k), .int .i64 (fd2 l k)] 89 0 _ rfl
      have y1 := box_cell wr #[.string (fd0 l k), .int .i64 (fd1 l k), .int .i64 (fd2 l k)] 89 1 _ rfl
      have y2 := box_cell wr #[.string (fd0 l k), .int .i64 (fd1 l k), .int .i64 (fd2 l k)] 89 2 _ rfl
      have hbl := below_alloc wr (.cells #[.string (fd0 l k), .int .i64 (fd1 l k), .int .i64 (fd2 l k)] 89)
      clear hc
      by_cases e : fd0 l k = s
      · have gb := strB_yes e
        have HE : Hid (fdOf l s = some (fd1 l k, fd2 l k)) := Lib.hid (fdOf_hit hlt HN.out e)
        clear e
        go_wp2
        obtain ⟨r0, r1⟩ := cells2 (block_in (o := .cells #[.int .i64 (fd1 l k), .int .i64 (fd2 l k)] 87 (0, 0)) (setCells_atG [.int .i64 (fd1 l k), .int .i64 (fd2 l k)] 0 HQ1.out (by simp)) (below_alloc _ (.cells #[.string (fd0 l k), .int .i64 (fd1 l k), .int .i64 (fd2 l k)] 89)))
        simp only [setCells, Nat.zero_add] at r0 r1
        refine bodyPost_ret (v := .tuple #[.agg #[.int .i64 (fd1 l k), .int .i64 (fd2 l k)], .bool true]) (by simp [results, go_sem, r0, r1]) rfl ⟨by rw [HE.out]; rfl, ?_⟩
        exact ext_alloc (setCells_below HGG.out [.int .i64 (fd1 l k), .int .i64 (fd2 l k)] 0 (hB0.trans (hB.mono hB0.size))) _
      · have gb := strB_no e
        have HN2 := Lib.hid (all_succ (p := fun j => fd0 l j ≠ s) HN.out e)
        clear e
        go_wp2
        go_roundw
        case rel => exact ⟨k + 1, by omega, by go_num, HN2, ext_trans hB hbl⟩
        case measure => simp [intOf]; omega
    · obtain rfl : k = l.length := by omega
      have HE : Hid (fdOf l s = none) := Lib.hid (fdOf_miss HN.out)
      go_wp2
      obtain ⟨r0, r1⟩ := cells2 (show (setCells wr g 0 [.int .i64 0, .int .i64 0]).heap[g]? = some (.cells #[.int .i64 0, .int .i64 0] 87 (0, 0)) from setCells_atG [.int .i64 0, .int .i64 0] 0 HQ1.out (by simp))
      simp only [setCells, Nat.zero_add] at r0 r1
      refine bodyPost_ret (v := .tuple #[.agg #[.int .i64 0, .int .i64 0], .bool false]) (by simp [results, go_sem, r0, r1]) rfl ⟨by rw [HE.out]; rfl, ?_⟩
      exact setCells_below HGG.out [.int .i64 0, .int .i64 0] 0 (hB0.trans (hB.mono hB0.size))
def b01 (b : Bool) : Int := if b = true then 1 else 0
set_option maxRecDepth 100000 in
set_option maxHeartbeats 1000000 in
theorem implTruthOf (b : Bool) (w : World) : Calls Tryz.prog 100 #[.bool b] w fun e w' => e = .returned (.agg #[.int .i64 1, .int .i64 (b01 b)]) ∧ Below w.heap.size w w' := by
  cases b
  all_goals
    go_enter Tryz.func100, Tryz.ntmps100
    go_wp2
    refine bodyPost_ret (v := _) (by simp [results, go_sem]; rfl) rfl ⟨rfl, ?_⟩
    repeat (first | exact Below.refl _ _ | refine ext_alloc ?_ _)
set_option maxRecDepth 100000 in
set_option maxHeartbeats 1000000 in
theorem truthValue_any (b : Bool) (w : World) : Calls Tryz.prog 92 #[.bool b] w fun e w' => e = .returned (.tuple #[.agg #[.int .i64 1, .int .i64 (b01 b)], .int .i64 0]) ∧ Below w.heap.size w w' := by
  obtain ⟨x, hx⟩ : ∃ x, b01 b = x := ⟨_, rfl⟩
  have HX := Lib.hid hx
  go_enter Tryz.func92, Tryz.ntmps92
  go_wp2_with fail
  refine (implTruthOf b _).mono ?_
  rintro e w1 ⟨rfl, hb⟩
  rw [hx]
  clear hx
  obtain ⟨hc, hf⟩ := bcell hb
  have hz := hb.size
  simp only [World.size_alloc] at hz hc hf
  go_wp2
  refine bodyPost_ret (v := .tuple #[.agg #[.int .i64 1, .int .i64 x], .int .i64 0]) (by simp [results, go_sem, hc]) rfl ⟨by rw [HX.out], ?_⟩
  have hb2 : Below w.heap.size w w1 := ext_trans (show Below w.heap.size w _ by (repeat (first | exact Below.refl _ _ | refine ext_alloc ?_ _ | refine Below.setCell ?_ (by simp) _))) hb
  repeat (first | (with_reducible exact hb2) | with_reducible refine Below.setCell ?_ (by (try simp) <;> omega) _)
end Go.Proofs.YtodjokdaofefdaaGreat
/- What is in a thing: by both. -/
namespace Go.Proofs.YtodjokdaofefdaaGreat
set_option linter.unusedSimpArgs false
set_option linter.unusedVariables false
open Go.RowKit

/-- What is asked of a predicate over a list's numbers. -/
def PrI (g : Nat) (lb : Array Value) (p : Nat → Bool) (w : World) (l : List Int) : Prop :=
  ∀ k, k < l.length → ∀ (W : World), Below w.heap.size w W → Calls Tryz.prog g (#[.int .i64 (il0 l k)] ++ lb) W fun e w' => e = .returned (.bool (p k)) ∧ Below W.heap.size W w'
set_option maxRecDepth 100000 in
set_option maxHeartbeats 4000000 in
theorem indexInt_any {g : Nat} {lb : Array Value} {p : Nat → Bool} {A : Option Addr} {l : List Int} {c : Nat} {w : World} {q : Bool} (eg : ∀ args w, (callFunc g args).run Tryz.prog w = .ok (.enter g args) w)
    (hU : ilR w A l) (hp : PrI g lb p w l) (hq : (List.range l.length).any p = q) :
    Calls Tryz.prog 103 #[.slice A l.length c, .func (.func g) #[] lb] w fun e w' => ∃ i : Int, e = .returned (.int .i64 i) ∧ ((q = true → 0 ≤ i) ∧ (q = false → i = -1)) ∧ Below w.heap.size w w' := by
  have hlen := hU.len
  have HQ := Lib.hid hq
  have HP := Lib.hid hp
  clear hp hq
  go_enter Tryz.func103, Tryz.ntmps103
  go_wp2
  go_loopw [5, 8] (fun _ iv wr => ∃ k : Nat, k ≤ l.length ∧ iv = .int .i64 k ∧ Hid (∀ j, j < k → p j = false) ∧ Below w.heap.size w wr) (fun _ iv _ => l.length - (intOf iv).toNat)
  case atStart => exact ⟨0, Nat.zero_le _, rfl, Lib.hid (fun j h => by omega), Below.refl _ _⟩
  case round =>
    obtain ⟨k, hk, rfl, HG, hB⟩ := hrel
    by_cases hlt : k < l.length
    · obtain ⟨b, off, rfl, hc⟩ := hU.cells (by omega)
      have p0 := below_cell hB (hc k hlt)
      clear hc
      have HCALL := Lib.hid (HP.out k hlt _ hB)
      obtain ⟨y, hy⟩ : ∃ y, p k = y := ⟨_, rfl⟩
      rw [hy] at HCALL
      have HY := Lib.hid hy
      clear hy
      cases y
      · go_wp2_with fail
        refine HCALL.out.mono ?_
        rintro e w1 ⟨rfl, hb⟩
        replace hB := ext_trans hB hb
        clear hb p0
        go_wp2
        go_roundw
        case rel => exact ⟨k + 1, by omega, by go_num, Lib.hid (all_succ HG.out HY.out), hB⟩
        case measure => simp [intOf]; omega
      · go_wp2_with fail
        refine HCALL.out.mono ?_
        rintro e w1 ⟨rfl, hb⟩
        replace hB := ext_trans hB hb
        clear hb p0
        go_wp2
        go_ret
        exact ⟨k, rfl, ⟨fun _ => by omega, fun h => by have := any_hit HQ.out hlt HY.out; rw [h] at this; cases this⟩, hB⟩
    · obtain rfl : k = l.length := by omega
      go_wp2
      go_ret
      exact ⟨-1, rfl, ⟨fun h => (by have := any_miss HQ.out HG.out; rw [h] at this; cases this), fun _ => rfl⟩, hB⟩
set_option maxHeartbeats 1000000 in
theorem containsInt_any {g : Nat} {lb : Array Value} {p : Nat → Bool} {A : Option Addr} {l : List Int} {c : Nat} {w : World} {q : Bool} (eg : ∀ args w, (callFunc g args).run Tryz.prog w = .ok (.enter g args) w)
    (hU : ilR w A l) (hp : PrI g lb p w l) (hq : (List.range l.length).any p = q) :
    Calls Tryz.prog 101 #[.slice A l.length c, .func (.func g) #[] lb] w fun e w' => e = .returned (.bool q) ∧ Below w.heap.size w w' := by
  have HI := Lib.hid (indexInt_any (c := c) eg hU hp hq)
  clear hp hq
  go_enter Tryz.func101, Tryz.ntmps101
  go_wp2_with fail
  refine HI.out.mono ?_
  rintro e w1 ⟨i, rfl, ⟨h1, h2⟩, hB⟩
  cases q
  · obtain rfl := h2 rfl
    clear h1 h2
    go_wp2
    go_ret
    exact ⟨rfl, hB⟩
  · have h3 := h1 rfl
    have h4 : decide (i ≥ 0) = true := by simpa using h3
    have h5 : decide (0 ≤ i) = true := by simpa using h3
    clear h1 h2
    go_wp2
    go_ret
    first | exact ⟨rfl, hB⟩ | exact ⟨by rw [h4], hB⟩ | exact ⟨by rw [h5], hB⟩
theorem enters_in1 : ∀ args w, (callFunc 102 args).run Tryz.prog w = .ok (.enter 102 args) w := enters_of Tryz.func102 (by kernel_rfl) rfl
theorem il_any (l : List Int) (p : Int → Bool) : (List.range l.length).any (fun k => p (il0 l k)) = l.any p := by
  rw [Bool.eq_iff_iff]
  simp only [List.any_eq_true, List.mem_range]
  constructor
  · rintro ⟨k, hk, h⟩; exact ⟨l[k], List.getElem_mem hk, by rw [← il_elem hk]; exact h⟩
  · rintro ⟨x, hx, h⟩
    obtain ⟨k, hk, rfl⟩ := List.getElem_of_mem hx
    exact ⟨k, hk, by rw [il_elem hk]; exact h⟩
theorem wld_group {W : WL} (hW : WldP W) {a k : Nat} (ha : a < W.length) (hk : k < (thAt W a).gs.length) : 0 ≤ il0 (thAt W a).gs k ∧ il0 (thAt W a).gs k < a := by
  have := (ascAt_iff.1 ((ascB_iff.1 (hW.1 a ha).1) k hk)).1
  omega
def IiQ (n : Nat) : Prop := ∀ (W : WL) (A : Option Addr) (c a : Nat) (b : Int) (w : World), wlR w A W → WldP W → a < n → a < W.length →
  Calls Tryz.prog 94 #[.slice A W.length c, .int .i64 a, .int .i64 b] w fun e w' => e = .returned (.bool (isF W n a b)) ∧ Below w.heap.size w w'
theorem in1_any {n : Nat} (hQ : IiQ n) {W : WL} {A : Option Addr} {c g a : Nat} {b x : Int} {w : World} (hU : wlR w A W) (hW : WldP W) (h0 : x = a) (h1 : a < n) (h2 : a < W.length)
    (b0 : w.cell? ⟨g, 0, none⟩ = some (.slice A W.length c)) (b1 : w.cell? ⟨g + 1, 0, none⟩ = some (.int .i64 b)) :
    Calls Tryz.prog 102 #[.int .i64 x, .pointer (some ⟨g, 0, none⟩), .pointer (some ⟨g + 1, 0, none⟩)] w fun e w' => e = .returned (.bool (isF W n x b)) ∧ Below w.heap.size w w' := by
  subst h0
  have HQ := Lib.hid (hQ W A c a b)
  clear hQ
  go_enter Tryz.func102, Tryz.ntmps102
  go_wp2_with fail
  refine (HQ.out _ hU hW h1 h2).mono ?_
  rintro e w1 ⟨rfl, hb⟩
  go_wp2
  go_ret
  exact ⟨rfl, hb⟩
theorem isF_hit (W : WL) (n : Nat) (a : Int) : isF W (n + 1) a a = true := by simp [isF]
theorem isF_not {W : WL} {n : Nat} {a b : Int} (h : a ≠ b) : isF W (n + 1) a b = (thAt W a.toNat).gs.any (fun g => isF W n g b) := by simp [isF, h]
set_option maxRecDepth 100000 in
set_option maxHeartbeats 4000000 in
theorem iiQ_succ {n : Nat} (hQ : IiQ n) : IiQ (n + 1) := by
  intro W A c a b w hU hW han haw
  have eg := enters_in1
  obtain ⟨X, hX⟩ : ∃ X, X = (w.alloc (.cells #[.slice A W.length c] 30)).alloc (.cells #[.int .i64 b] 3) := ⟨_, rfl⟩
  obtain ⟨g, hg⟩ : ∃ g, g = w.heap.size := ⟨_, rfl⟩
  have hB : Below w.heap.size w X := by rw [hX]; (repeat (first | exact Below.refl _ _ | refine ext_alloc ?_ _ | refine Below.setCell ?_ (by simp) _))
  have hq : X.heap[g]? = some (.cells #[.slice A W.length c] 30 (0, 0)) := by rw [hX, hg]; exact block_in (heap_alloc_new _ _) (below_alloc _ _)
  have hq2 : X.heap[g + 1]? = some (.cells #[.int .i64 b] 3 (0, 0)) := by rw [hX, hg]; exact heap_alloc_at (by simp)
  have z0 : X.cell? ⟨g, 0, none⟩ = some (.slice A W.length c) := (cell_of_row X g 0 _ _ _ hq).trans rfl
  have z1 : X.cell? ⟨g + 1, 0, none⟩ = some (.int .i64 b) := (cell_of_row X (g + 1) 0 _ _ _ hq2).trans rfl
  have hlen := hU.len
  replace hU := hU.below hB
  have HX := Lib.hid hX
  have HG := Lib.hid hg
  have HWD := Lib.hid hW
  clear hX hg hq hq2 hW
  by_cases e : (a : Int) = b
  · subst e
    have HE := Lib.hid (isF_hit W n a)
    go_enter Tryz.func94, Tryz.ntmps94
    go_wp2_with fail
    go_ret
    exact ⟨by rw [HE.out]; rfl, by rw [← HX.out]; exact hB⟩
  · have gb : ((a : Int) == b) = false := by simpa using e
    have HE : Hid (isF W (n + 1) a b = (thAt W a).gs.any (fun g => isF W n g b)) := Lib.hid (isF_not e)
    obtain ⟨ba, off, rfl, hc⟩ := hU.cells (by omega)
    obtain ⟨A1, c1, A2, c2, hr1, hr2, d0, d1⟩ := hc a haw
    have HCF : Hid (Calls Tryz.prog 101 #[.slice A1 (thAt W a).gs.length c1, .func (.func 102) #[] #[.pointer (some ⟨g, 0, none⟩), .pointer (some ⟨g + 1, 0, none⟩)]] X fun e w' => e = .returned (.bool ((thAt W a).gs.any (fun g => isF W n g b))) ∧ Below X.heap.size X w') := Lib.hid (by
      refine containsInt_any (p := fun k => isF W n (il0 (thAt W a).gs k) b) enters_in1 hr1 ?_ (il_any _ (fun g => isF W n g b))
      intro k hk Y hY
      have hgk := wld_group HWD.out haw hk
      exact in1_any (a := (il0 (thAt W a).gs k).toNat) hQ (hU.below hY) HWD.out (by omega) (by omega) (by omega) (below_cell hY z0) (below_cell hY z1))
    obtain ⟨q, hq⟩ : ∃ q, (thAt W a).gs.any (fun g => isF W n g b) = q := ⟨_, rfl⟩
    rw [hq] at HE HCF
    rw [HX.out] at d0
    clear hc hr1 hr2 hq e d1 z0 z1
    go_enter Tryz.func94, Tryz.ntmps94
    go_wp2_with fail
    rw [← HX.out, ← HG.out]
    refine HCF.out.mono ?_
    rintro e w1 ⟨rfl, hb⟩
    replace hB := ext_trans hB hb
    clear hb d0
    cases q
    all_goals
      go_wp2
      go_ret
      exact ⟨by rw [HE.out]; rfl, hB⟩
theorem iiQ_all : ∀ n, IiQ n
  | 0 => fun W A c a b w _ _ h _ => by omega
  | n + 1 => iiQ_succ (iiQ_all n)
end Go.Proofs.YtodjokdaofefdaaGreat
