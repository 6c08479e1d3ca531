/- The greatest thing of an expression; kinds by both. -/
import Derived.Test.YtodjokdaofefdaaQ8
import Derived.Test.YtodjokdaofefdaaQ6
import Derived.Test.YtodjokdaofefdaaQ1
import Derived.Maps.Views
import Derived.Maps.OwnOps
import Derived.OwnWalk
import Derived.Test.YtodjokdaofefdaaQ3
namespace Go.Proofs.Ytodjokdaofefdaa
set_option linter.unusedSimpArgs false
set_option linter.unusedVariables false
open Go.RowKit

theorem grownP_below {w w' : World} (h : Below w.heap.size w w') (row : Option Nat) : w.grownBy w' row := ⟨h.os, h.tape, h.output, h.size, fun k hk _ => h.block k hk⟩
theorem mxI_swap (l : List Int) (x y : Int) : max (mxI x l) y = mxI (max x y) l := by
  rw [Int.max_comm, ← mxI_max, Int.max_comm]
theorem max_if (a b : Int) : max a b = if a < b then b else a := by
  rw [Int.max_def]; split <;> split <;> omega
def ThQ (d : Nat) : Prop := ∀ (A : Option Addr) (r : Ex) (c : Nat) (w : World), exW d w A r.ps →
  Calls Try.prog 61 #[.agg #[.int .i64 r.k, .int .i64 r.n, .string r.s, .slice A r.ps.length c]] w fun e w' => e = .returned (.int .i64 (thR (d + 1) r)) ∧ Below w.heap.size w w'
set_option maxRecDepth 100000 in
set_option maxHeartbeats 4000000 in
theorem thQ_of {d : Nat} (hQ : ∀ m, d = m + 1 → ThQ m) : ThQ d := by
  intro A r c w hU
  have HQ := Lib.hid hQ
  have hlen := exS.len hU
  obtain ⟨W, hW⟩ : ∃ W, W = w.alloc (.cells #[.int .i64 r.k, .int .i64 r.n, .string r.s, .slice A r.ps.length c] 28) := ⟨_, rfl⟩
  obtain ⟨g, hg⟩ : ∃ g, g = w.heap.size := ⟨_, rfl⟩
  have hB0 : Below w.heap.size w W := by rw [hW]; exact below_alloc _ _
  have hq : W.heap[g]? = some (.cells #[.int .i64 r.k, .int .i64 r.n, .string r.s, .slice A r.ps.length c] 28 (0, 0)) := by rw [hW, hg]; exact heap_alloc_new _ _
  obtain ⟨p0, p1, p2, p3⟩ := cells4 hq
  replace hU := hU.below hB0
  have HQ1 := Lib.hid hq
  have HW := Lib.hid hW
  have HG := Lib.hid hg
  clear hW hg hq hQ
  obtain ⟨x0, hx0⟩ : ∃ x, x = (if r.k = 3 then r.n else -1) := ⟨_, rfl⟩
  have HX0 := Lib.hid hx0
  have hstart : ∀ {P : Prop}, (r.k = 3 → x0 = r.n → P) → (r.k ≠ 3 → x0 = -1 → P) → P := fun a b => by
    by_cases h3 : r.k = 3
    · exact a h3 (by rw [hx0, if_pos h3])
    · exact b h3 (by rw [hx0, if_neg h3])
  clear hx0
  have hloop : ∀ {id : Nat}, True := fun {_} => trivial
  clear hloop
  go_enter Try.func61, Try.ntmps61
  refine hstart (fun h3 he => ?_) (fun h3 he => ?_)
  all_goals
    first
      | (have h3b : (r.k == 3) = true := by simpa using h3)
      | (have h3b : (r.k == 3) = false := by simpa using h3)
    clear h3
    go_wp2_with fail
    rw [← HW.out, ← HG.out]
    first
      | rw [← he]
      | skip
    clear he hstart h3b
    go_loopw [3, 4] (fun m i wr => ∃ k : Nat, k ≤ r.ps.length ∧ i = .int .i64 k ∧ m = .int .i64 (mxI x0 ((r.ps.take k).map (thR d))) ∧ Below W.heap.size W wr) (fun _ i _ => r.ps.length - (intOf i).toNat)
    case atStart => exact ⟨0, Nat.zero_le _, rfl, rfl, Below.refl _ _⟩
    case round =>
      obtain ⟨k, hk, rfl, rfl, hB⟩ := hrel
      obtain ⟨e0, e1, e2, e3⟩ := cells4 (block_in HQ1.out hB)
      by_cases hlt : k < r.ps.length
      · have hd : ∃ m, d = m + 1 := by
          cases d with
          | zero => have := exS.zero hU; rw [this] at hlt; simp at hlt
          | succ m => exact ⟨m, rfl⟩
        obtain ⟨m, hm⟩ := hd
        subst hm
        have HI := Lib.hid (HQ.out m rfl)
        obtain ⟨b, off, rfl, hcl⟩ := hU.cells (by omega)
        obtain ⟨A', c', hfd, hs, y0, y1, y2, y3⟩ := hcl k hlt
        replace y0 := below_cell hB y0
        replace y1 := below_cell hB y1
        replace y2 := below_cell hB y2
        replace y3 := below_cell hB y3
        replace hfd := hfd.below hB
        have HAP : Hid (mxI x0 ((r.ps.take (k + 1)).map (thR (m + 1))) = max (mxI x0 ((r.ps.take k).map (thR (m + 1)))) (thR (m + 1) (exAt r.ps k))) := Lib.hid (by
          rw [List.take_succ_eq_append_getElem hlt, List.map_append, exAt_eq hlt]; exact mxI_snoc _ _ _)
        obtain ⟨z, hz⟩ : ∃ z, mxI x0 ((r.ps.take k).map (thR (m + 1))) = z := ⟨_, rfl⟩
        rw [hz] at HAP ⊢
        clear hcl hz
        go_wp2_with fail
        refine (HI.out _ _ _ _ hfd).mono ?_
        rintro e w1 ⟨rfl, hb⟩
        replace hB := ext_trans hB hb
        clear hb y0 y1 y2 y3 hfd e0 e1 e2 e3
        go_wp2
        go_roundw
        case rel => exact ⟨k + 1, by omega, by go_num, by rw [HAP.out, max_if], hB⟩
        case measure => simp [intOf]; omega
      · obtain rfl : k = r.ps.length := by omega
        go_wp2
        go_ret
        refine ⟨?_, hB0.trans (hB.mono hB0.size)⟩
        rw [List.take_length, thR, ← HX0.out]
        rfl
theorem thQ_all : ∀ d, ThQ d
  | 0 => thQ_of (fun m h => by omega)
  | d + 1 => thQ_of (fun m h => by cases h; exact thQ_all d)
set_option maxRecDepth 100000 in
set_option maxHeartbeats 4000000 in
theorem used1_any {A : Option Addr} {r : Ex} {n c b : Nat} {x : Int} {w : World} (hb : w.heap[b]? = some (.cells #[.int .i64 x] 3 (0, 0))) :
    Calls Try.prog 96 #[.agg #[.int .i64 r.k, .int .i64 r.n, .string r.s, .slice A n c], .pointer (some ⟨b, 0, none⟩)] w fun e w' => e = .returned (.tuple #[]) ∧ w'.heap[b]? = some (.cells #[.int .i64 (if r.k = 3 then max x r.n else x)] 3 (0, 0)) ∧ w.grownBy w' (some b) := by
  have hlt := (Array.getElem?_eq_some_iff.1 hb).1
  have hc0 : w.cell? ⟨b, 0, none⟩ = some (.int .i64 x) := (cell_of_row w b 0 _ _ _ hb).trans rfl
  have hf0 := frozen_of_row w b 0 _ _ hb
  have HB := Lib.hid hb
  clear hb
  obtain ⟨F, hF⟩ : ∃ F, F = (if r.k = 3 then max x r.n else x) := ⟨_, rfl⟩
  rw [← hF]
  have HFF := Lib.hid hF
  clear hF
  have hfin : ∀ (v : Int) (o : Obj), v = F → ((w.setCell ⟨b, 0, none⟩ (.int .i64 v)).alloc o).heap[b]? = some (.cells #[.int .i64 F] 3 (0, 0)) ∧ w.grownBy ((w.setCell ⟨b, 0, none⟩ (.int .i64 v)).alloc o) (some b) := fun v o e => by
    subst e
    exact ⟨block_in (setCells_atG [.int .i64 v] 0 HB.out (by simp)) (below_alloc _ _), grown_trans_ (setCells_grown b [.int .i64 v] w 0) (grownP_below (below_alloc _ _) _)⟩
  have HF := Lib.hid hfin
  clear hfin
  by_cases h3 : r.k = 3
  · have h3b : (r.k == 3) = true := by simpa using h3
    rcases Int.lt_or_le x r.n with hx | hx
    · have HV : Hid (r.n = F) := Lib.hid (by rw [HFF.out, if_pos h3]; omega)
      clear h3
      go_enter Try.func96, Try.ntmps96
      go_wp2
      exact bodyPost_end (results_none rfl _ _ _) rfl ⟨rfl, HF.out _ _ HV.out⟩
    · have HV : Hid (x = F) := Lib.hid (by rw [HFF.out, if_pos h3]; omega)
      clear h3
      go_enter Try.func96, Try.ntmps96
      go_wp2
      exact bodyPost_end (results_none rfl _ _ _) rfl ⟨rfl, HF.out _ _ HV.out⟩
  · have h3b : (r.k == 3) = false := by simpa using h3
    have HN : Hid (F = x) := Lib.hid (by rw [HFF.out, if_neg h3])
    clear h3
    go_enter Try.func96, Try.ntmps96
    go_wp2
    exact bodyPost_end (results_none rfl _ _ _) rfl ⟨rfl, by rw [HN.out]; exact block_in HB.out (below_alloc _ _), grownP_below (below_alloc _ _) _⟩
theorem enters_used1 : ∀ args w, (callFunc 96 args).run Try.prog w = .ok (.enter 96 args) w := enters_of Try.func96 (by kernel_rfl) rfl
/-- What a call for each part gives: a box below holds the greatest. -/
def EaQ (d : Nat) : Prop := ∀ (A : Option Addr) (r : Ex) (c b : Nat) (x : Int) (w : World), exS d 0 b w A r.ps → w.heap[b]? = some (.cells #[.int .i64 x] 3 (0, 0)) → -1 ≤ x →
  Calls Try.prog 79 #[.agg #[.int .i64 r.k, .int .i64 r.n, .string r.s, .slice A r.ps.length c], .func (.func 96) #[] #[.pointer (some ⟨b, 0, none⟩)]] w fun e w' => e = .returned (.tuple #[]) ∧ w'.heap[b]? = some (.cells #[.int .i64 (max x (thR (d + 1) r))] 3 (0, 0)) ∧ w.grownBy w' (some b)
theorem th_all {d : Nat} {r : Ex} {x y : Int} (hx : -1 ≤ x) (hy : y = mxI x (r.ps.map (thR d))) : (if r.k = 3 then max y r.n else y) = max x (thR (d + 1) r) := by
  subst hy
  rw [thR]
  by_cases h3 : r.k = 3
  · rw [if_pos h3, if_pos h3, mxI_swap, mxI_max]
  · rw [if_neg h3, if_neg h3, ← mxI_max, show max x (-1) = x by omega]
set_option maxRecDepth 100000 in
set_option maxHeartbeats 4000000 in
theorem eaQ_of {d : Nat} (hQ : ∀ m, d = m + 1 → EaQ m) : EaQ d := by
  intro A r c b x w hU hbx hx
  have eg := enters_used1
  have HQ := Lib.hid hQ
  have hlen := exS.len hU
  have hbw := (Array.getElem?_eq_some_iff.1 hbx).1
  obtain ⟨W, hW⟩ : ∃ W, W = w.alloc (.cells #[.int .i64 r.k, .int .i64 r.n, .string r.s, .slice A r.ps.length c] 28) := ⟨_, rfl⟩
  obtain ⟨g, hg⟩ : ∃ g, g = w.heap.size := ⟨_, rfl⟩
  have hB0 : Below w.heap.size w W := by rw [hW]; exact below_alloc _ _
  have hq : W.heap[g]? = some (.cells #[.int .i64 r.k, .int .i64 r.n, .string r.s, .slice A r.ps.length c] 28 (0, 0)) := by rw [hW, hg]; exact heap_alloc_new _ _
  have hbW := block_in hbx hB0
  obtain ⟨p0, p1, p2, p3⟩ := cells4 hq
  replace hU := exS.below hU (Nat.le_of_lt hbw) hB0
  have HG0 := Lib.hid (grownP_below hB0 (some b))
  have HQ1 := Lib.hid hq
  have HW := Lib.hid hW
  have HG := Lib.hid hg
  have HBW := Lib.hid hbW
  have HGB : Hid (b < g) := Lib.hid (by rw [hg]; exact hbw)
  have HXX := Lib.hid hx
  clear hW hg hq hQ hbx hbW hbw hB0 hx
  go_enter Try.func79, Try.ntmps79
  go_wp2_with fail
  rw [← HW.out, ← HG.out]
  go_loopw [9] (fun i wr => ∃ k : Nat, k ≤ r.ps.length ∧ i = .int .i64 k ∧ Hid (wr.heap[b]? = some (.cells #[.int .i64 (mxI x ((r.ps.take k).map (thR d)))] 3 (0, 0))) ∧ W.grownBy wr (some b)) (fun i _ => r.ps.length - (intOf i).toNat)
  case atStart => exact ⟨0, Nat.zero_le _, rfl, HBW, World.grownBy.refl _ _⟩
  case round =>
    obtain ⟨k, hk, rfl, HBX, hR⟩ := hrel
    have HR := Lib.hid hR
    have hUr := hU.keep (w' := wr) (fun q _ h2 => hR.block q (by have := (Array.getElem?_eq_some_iff.1 HBW.out).1; omega) (fun e => by cases e; omega)) (Nat.le_refl _) (Nat.le_refl _)
    have HQ2 := Lib.hid ((hR.block g (Array.getElem?_eq_some_iff.1 HQ1.out).1 (fun e => by have := HGB.out; cases e; omega)).trans HQ1.out)
    by_cases hlt : k < r.ps.length
    · have hd : ∃ m, d = m + 1 := by
        cases d with
        | zero => have := exS.zero hU; rw [this] at hlt; simp at hlt
        | succ m => exact ⟨m, rfl⟩
      obtain ⟨m, hm⟩ := hd
      subst hm
      have HI := Lib.hid (HQ.out m rfl)
      obtain ⟨b1, off, rfl, _, hcl⟩ := exS.cells hUr (by omega)
      obtain ⟨A', c', hfd, hs, e0, e1, e2, e3⟩ := hcl k hlt
      have y0 := box_cell wr #[.int .i64 (exAt r.ps k).k, .int .i64 (exAt r.ps k).n, .string (exAt r.ps k).s, .slice A' (exAt r.ps k).ps.length c'] 28 0 _ rfl
      have y1 := box_cell wr #[.int .i64 (exAt r.ps k).k, .int .i64 (exAt r.ps k).n, .string (exAt r.ps k).s, .slice A' (exAt r.ps k).ps.length c'] 28 1 _ rfl
      have y2 := box_cell wr #[.int .i64 (exAt r.ps k).k, .int .i64 (exAt r.ps k).n, .string (exAt r.ps k).s, .slice A' (exAt r.ps k).ps.length c'] 28 2 _ rfl
      have y3 := box_cell wr #[.int .i64 (exAt r.ps k).k, .int .i64 (exAt r.ps k).n, .string (exAt r.ps k).s, .slice A' (exAt r.ps k).ps.length c'] 28 3 _ rfl
      have HBA := Lib.hid (below_alloc wr (.cells #[.int .i64 (exAt r.ps k).k, .int .i64 (exAt r.ps k).n, .string (exAt r.ps k).s, .slice A' (exAt r.ps k).ps.length c'] 28))
      have hfd2 := exS.below hfd (Nat.le_of_lt (Array.getElem?_eq_some_iff.1 HBX.out).1) HBA.out
      have HAP : Hid (mxI x ((r.ps.take (k + 1)).map (thR (m + 1))) = max (mxI x ((r.ps.take k).map (thR (m + 1)))) (thR (m + 1) (exAt r.ps k))) := Lib.hid (by
        rw [List.take_succ_eq_append_getElem hlt, List.map_append, exAt_eq hlt]; exact mxI_snoc _ _ _)
      have hz1 : -1 ≤ mxI x ((r.ps.take k).map (thR (m + 1))) := Int.le_trans HXX.out (mxI_ge _ _)
      obtain ⟨z, hz⟩ : ∃ z, mxI x ((r.ps.take k).map (thR (m + 1))) = z := ⟨_, rfl⟩
      rw [hz] at HAP HBX hz1
      have HC := Lib.hid (HI.out _ _ c' _ _ _ hfd2 (block_in HBX.out HBA.out) hz1)
      clear hcl hz hfd hfd2 hz1 hR hUr
      go_wp2_with fail
      refine HC.out.mono ?_
      rintro e w1 ⟨rfl, hb1, hg1⟩
      have HB1 := Lib.hid hb1
      have HR1 := Lib.hid (grown_trans_ HR.out (grown_trans_ (grownP_below HBA.out _) hg1))
      clear hb1 hg1 e0 e1 e2 e3 y0 y1 y2 y3
      go_wp2
      go_roundw
      case rel => exact ⟨k + 1, by omega, by go_num, by rw [HAP.out]; exact HB1, HR1.out⟩
      case measure => simp [intOf]; omega
    · obtain rfl : k = r.ps.length := by omega
      rw [List.take_length] at HBX
      obtain ⟨p0, p1, p2, p3⟩ := cells4 HQ2.out
      have hth := th_all (d := d) (r := r) (y := mxI x (r.ps.map (thR d))) HXX.out rfl
      have HTH := Lib.hid hth
      clear hth hR hUr
      go_wp2_with fail
      refine (used1_any HBX.out).mono ?_
      rintro e w1 ⟨rfl, hb1, hg1⟩
      rw [HTH.out] at hb1
      have HB1 := Lib.hid hb1
      have HR1 := Lib.hid (grown_trans_ HG0.out (grown_trans_ HR.out hg1))
      clear hb1 hg1 p0 p1 p2 p3
      go_wp2
      exact bodyPost_end (results_none rfl _ _ _) rfl ⟨rfl, HB1.out, HR1.out⟩
theorem eaQ_all : ∀ d, EaQ d
  | 0 => eaQ_of (fun m h => by omega)
  | d + 1 => eaQ_of (fun m h => by cases h; exact eaQ_all d)
end Go.Proofs.Ytodjokdaofefdaa
/- Policies: how they read. -/
namespace Go.Proofs.Ytodjokdaofefdaa
set_option linter.unusedSimpArgs false
set_option linter.unusedVariables false
open Go.RowKit

def poC (p : Po) (v : Value) : List Value := [.string p.nm, .bool p.al, .int .i64 p.who, .int .i64 p.what, .int .i64 p.acts, .int .i64 p.wh.k, .int .i64 p.wh.n, .string p.wh.s, v]
def poV (p : Po) (A : Option Addr) (c : Nat) : Value := .agg #[.string p.nm, .bool p.al, .int .i64 p.who, .int .i64 p.what, .int .i64 p.acts, .int .i64 p.wh.k, .int .i64 p.wh.n, .string p.wh.s, .slice A p.wh.ps.length c]
/-- Texts that are not too long. -/
def poZ (p : Po) : Prop := p.wh.s.size ≤ 9223372036854775807 ∧ p.nm.size ≤ 9223372036854775807
/-- A policy that reads, its condition's parts at most d deep, in blocks from lo on, below hi. -/
def PoR (d lo hi : Nat) (w : World) (p : Po) (cs : List Value) : Prop := ∃ A c, cs = poC p (.slice A p.wh.ps.length c) ∧ exS d lo hi w A p.wh.ps ∧ poZ p
def poS (d lo hi : Nat) (w : World) (A : Option Addr) (l : PoL) : Prop := RdL (PoR d lo hi) 9 w A l ∧ (0 < l.length → ∀ a, A = some a → lo ≤ a.block ∧ a.block < hi)
def poW (d : Nat) (w : World) (A : Option Addr) (l : PoL) : Prop := poS d 0 w.heap.size w A l
section
variable {d d' lo hi lo' hi' B : Nat} {w w' : World} {A : Option Addr} {l : PoL} {p : Po} {cs : List Value}
theorem PoR.keep (hk : ∀ k, lo ≤ k → k < hi → w'.heap[k]? = w.heap[k]?) (h1 : lo' ≤ lo) (h2 : hi ≤ hi') (h : PoR d lo hi w p cs) : PoR d lo' hi' w' p cs := by
  obtain ⟨A, c, e, h3, h4⟩ := h
  exact ⟨A, c, e, h3.keep hk h1 h2, h4⟩
theorem PoR.deeper (hd : d ≤ d') (h : PoR d lo hi w p cs) : PoR d' lo hi w p cs := by
  obtain ⟨A, c, e, h3, h4⟩ := h
  exact ⟨A, c, e, h3.deeper hd, h4⟩
theorem PoR.one (h : PoR d lo hi w p cs) : ∀ u ∈ cs, u.oneCell' = true := by
  obtain ⟨A, c, rfl, _⟩ := h
  intro u hu
  simp only [poC, List.mem_cons, List.not_mem_nil, or_false] at hu
  rcases hu with rfl | rfl | rfl | rfl | rfl | rfl | rfl | rfl | rfl <;> rfl
theorem poS.keep (h : poS d lo hi w A l) (hk : ∀ k, lo ≤ k → k < hi → w'.heap[k]? = w.heap[k]?) (h1 : lo' ≤ lo) (h2 : hi ≤ hi') : poS d lo' hi' w' A l :=
  ⟨RdL.keep h.1 (fun _ _ h => PoR.keep hk h1 h2 h) (fun hn a ha => hk _ (h.2 hn a ha).1 (h.2 hn a ha).2), fun hn a ha => ⟨by have := (h.2 hn a ha).1; omega, by have := (h.2 hn a ha).2; omega⟩⟩
theorem poS.below (h : poS d lo hi w A l) (hB : hi ≤ B) (hb : Below B w w') : poS d lo hi w' A l := h.keep (fun k _ hk => hb.block k (by omega)) (Nat.le_refl _) (Nat.le_refl _)
theorem poS.wide (h : poS d lo hi w A l) (h1 : lo' ≤ lo) (h2 : hi ≤ hi') : poS d lo' hi' w A l := h.keep (fun _ _ _ => rfl) h1 h2
theorem poW.below (h : poW d w A l) (hb : Below w.heap.size w w') : poW d w' A l := (poS.below h (Nat.le_refl _) hb).wide (Nat.le_refl _) hb.size
theorem poW.len (h : poW d w A l) : l.length ≤ 9223372036854775807 := h.1.1
theorem poS.cells (h : poS d lo hi w A l) (hn : 0 < l.length) : ∃ b off, A = some ⟨b, off, none⟩ ∧ (lo ≤ b ∧ b < hi) ∧ ∀ k, k < l.length → ∃ A' c', exS d lo hi w A' (poAt l k).wh.ps ∧ poZ (poAt l k) ∧
    w.cell? ⟨b, off + k * 9, none⟩ = some (.string (poAt l k).nm) ∧ w.cell? ⟨b, off + k * 9 + 1, none⟩ = some (.bool (poAt l k).al) ∧ w.cell? ⟨b, off + k * 9 + 2, none⟩ = some (.int .i64 (poAt l k).who) ∧ w.cell? ⟨b, off + k * 9 + 3, none⟩ = some (.int .i64 (poAt l k).what) ∧ w.cell? ⟨b, off + k * 9 + 4, none⟩ = some (.int .i64 (poAt l k).acts) ∧
    w.cell? ⟨b, off + k * 9 + 5, none⟩ = some (.int .i64 (poAt l k).wh.k) ∧ w.cell? ⟨b, off + k * 9 + 6, none⟩ = some (.int .i64 (poAt l k).wh.n) ∧ w.cell? ⟨b, off + k * 9 + 7, none⟩ = some (.string (poAt l k).wh.s) ∧ w.cell? ⟨b, off + k * 9 + 8, none⟩ = some (.slice A' (poAt l k).wh.ps.length c') := by
  obtain ⟨b, off, e, hc⟩ := h.1.2 hn
  refine ⟨b, off, e, h.2 hn _ e, fun k hk => ?_⟩
  obtain ⟨cs, _, ⟨A', c', rfl, h2, h4⟩, hv⟩ := hc k hk
  have e : l[k] = poAt l k := (poAt_eq hk).symm
  rw [e] at h2 hv h4
  exact ⟨A', c', h2, h4, hv 0 _ rfl, hv 1 _ rfl, hv 2 _ rfl, hv 3 _ rfl, hv 4 _ rfl, hv 5 _ rfl, hv 6 _ rfl, hv 7 _ rfl, hv 8 _ rfl⟩
end
theorem cells9 {w : World} {g : Nat} {T : TypeId} {a b c d e f h i j : Value} (q : w.heap[g]? = some (.cells #[a, b, c, d, e, f, h, i, j] T (0, 0))) :
    w.cell? ⟨g, 0, none⟩ = some a ∧ w.cell? ⟨g, 1, none⟩ = some b ∧ w.cell? ⟨g, 2, none⟩ = some c ∧ w.cell? ⟨g, 3, none⟩ = some d ∧ w.cell? ⟨g, 4, none⟩ = some e ∧ w.cell? ⟨g, 5, none⟩ = some f ∧ w.cell? ⟨g, 6, none⟩ = some h ∧ w.cell? ⟨g, 7, none⟩ = some i ∧ w.cell? ⟨g, 8, none⟩ = some j :=
  ⟨(cell_of_row w g 0 _ _ _ q).trans rfl, (cell_of_row w g 1 _ _ _ q).trans rfl, (cell_of_row w g 2 _ _ _ q).trans rfl, (cell_of_row w g 3 _ _ _ q).trans rfl, (cell_of_row w g 4 _ _ _ q).trans rfl, (cell_of_row w g 5 _ _ _ q).trans rfl, (cell_of_row w g 6 _ _ _ q).trans rfl, (cell_of_row w g 7 _ _ _ q).trans rfl, (cell_of_row w g 8 _ _ _ q).trans rfl⟩
theorem Try.infoPolicy : (Try.prog.info? 30).map (fun i => (i.zero, i.size, i.bytes)) = some (some (.agg #[.string ByteArray.empty, .bool false, .int .i64 0, .int .i64 0, .int .i64 0, .int .i64 0, .int .i64 0, .string ByteArray.empty, .slice Option.none 0 0]), 9, 104) := by kernel_rfl
end Go.Proofs.Ytodjokdaofefdaa
/- Policies: whether they are valid, and what is wrong with them: by both. -/
namespace Go.Proofs.Ytodjokdaofefdaa
set_option linter.unusedSimpArgs false
set_option linter.unusedVariables false
open Go.RowKit

def scZ (s : Sc) : Prop := WfKd s.1 ∧ WfKd s.2
noncomputable def koX (d : Nat) (s : Sc) (r : Ex) : Int := if (scOk s && exOk r) = true then kiR (d + 1) s r else 0
def thX (d : Nat) (r : Ex) : Int := if exOk r = true then max (-1) (thR (d + 1) r) else -1
set_option maxRecDepth 100000 in
set_option maxHeartbeats 4000000 in
theorem implThingsUsed {d : Nat} {A : Option Addr} {r : Ex} {c : Nat} {w : World} (hU : exW d w A r.ps) (hs : r.s.size ≤ 9223372036854775807) :
    Calls Try.prog 47 #[.agg #[.int .i64 r.k, .int .i64 r.n, .string r.s, .slice A r.ps.length c]] w fun e w' => e = .returned (.int .i64 (thX d r)) ∧ Below w.heap.size w w' := by
  obtain ⟨W, hW⟩ : ∃ W, W = (w.alloc (.cells #[.int .i64 r.k, .int .i64 r.n, .string r.s, .slice A r.ps.length c] 28)).alloc (.cells #[.int .i64 (-1)] 3) := ⟨_, rfl⟩
  obtain ⟨g, hg⟩ : ∃ g, g = w.heap.size := ⟨_, rfl⟩
  have hB : Below w.heap.size w W := by rw [hW]; (repeat (first | exact Below.refl _ _ | refine ext_alloc ?_ _ | refine Below.setCell ?_ (by simp) _))
  have hq : W.heap[g]? = some (.cells #[.int .i64 r.k, .int .i64 r.n, .string r.s, .slice A r.ps.length c] 28 (0, 0)) := by rw [hW, hg]; exact block_in (heap_alloc_new _ _) (below_alloc _ _)
  have hq2 : W.heap[g + 1]? = some (.cells #[.int .i64 (-1)] 3 (0, 0)) := by rw [hW, hg]; exact heap_alloc_at (by simp)
  have hU0 : exS d 0 w.heap.size W A r.ps := exS.below hU (Nat.le_refl _) hB
  replace hU := hU.below hB
  obtain ⟨p0, p1, p2, p3⟩ := cells4 hq
  have HU0 := Lib.hid hU0
  have HQ := Lib.hid hq
  have HQ2 := Lib.hid hq2
  have HW := Lib.hid hW
  have HG := Lib.hid hg
  have HGG : Hid (w.heap.size ≤ g + 1) := Lib.hid (by omega)
  have hz0 : W.cell? ⟨g + 1, 0, none⟩ = some (.int .i64 (-1)) := (cell_of_row W (g + 1) 0 _ _ _ hq2).trans rfl
  clear hW hg hq hq2 hU0
  go_enter Try.func47, Try.ntmps47
  go_wp2_with fail
  rw [← HW.out, ← HG.out]
  refine (implExprValid hU hs).mono ?_
  rintro e w1 ⟨rfl, hb⟩
  have HB1 := Lib.hid (ext_trans hB hb)
  have HU1 : Hid (exS d 0 (g + 1) w1 A r.ps) := Lib.hid ((exS.below HU0.out hB.size hb).wide (Nat.le_refl _) HGG.out)
  obtain ⟨p0, p1, p2, p3⟩ := cells4 (block_in HQ.out hb)
  have HQ3 := Lib.hid (block_in HQ2.out hb)
  have hz1 : w1.cell? ⟨g + 1, 0, none⟩ = some (.int .i64 (-1)) := (cell_of_row w1 (g + 1) 0 _ _ _ HQ3.out).trans rfl
  have HF : Hid (thX d r = if exOk r = true then max (-1) (thR (d + 1) r) else -1) := Lib.hid rfl
  clear hb hU HQ HQ2 hz0
  cases gv : exOk r
  · rw [gv] at HF
    go_wp2
    go_ret
    exact ⟨by rw [HF.out]; rfl, HB1.out⟩
  · rw [gv] at HF
    clear hz1
    go_wp2_with fail
    refine (eaQ_all d _ _ _ _ _ _ HU1.out HQ3.out (by omega)).mono ?_
    rintro e w2 ⟨rfl, hb2, hg2⟩
    have hz2 : w2.cell? ⟨g + 1, 0, none⟩ = some (.int .i64 (max (-1) (thR (d + 1) r))) := (cell_of_row w2 (g + 1) 0 _ _ _ hb2).trans rfl
    have HB2 := Lib.hid (HB1.out.trans (grown_below hg2 HB1.out.size (fun q e => by cases e; exact HGG.out)))
    clear hb2 hg2 p0 p1 p2 p3
    go_wp2
    go_ret
    exact ⟨by rw [HF.out]; rfl, HB2.out⟩

set_option maxRecDepth 100000 in
set_option maxHeartbeats 4000000 in
theorem specKindOf {d : Nat} {s : Sc} {A0 A1 : Option Addr} {c0 c1 : Nat} {A : Option Addr} {r : Ex} {c : Nat} {w : World} (hS : scR w A0 A1 s) (hz : scZ s) (hU : exW d w A r.ps) (hs : r.s.size ≤ 9223372036854775807) (hcn : cntS d r.ps ≤ 2097152) :
    Calls Try.prog 60 #[scV s A0 c0 A1 c1, .agg #[.int .i64 r.k, .int .i64 r.n, .string r.s, .slice A r.ps.length c]] w fun e w' => e = .returned (.int .i64 (koX d s r)) ∧ Below w.heap.size w w' := by
  unfold scV
  have HIN := Lib.hid (exS_in hU)
  obtain ⟨W, hW⟩ : ∃ W, W = (w.alloc (.cells #[.slice A0 s.1.length c0, .slice A1 s.2.length c1] 25)).alloc (.cells #[.int .i64 r.k, .int .i64 r.n, .string r.s, .slice A r.ps.length c] 28) := ⟨_, rfl⟩
  obtain ⟨g, hg⟩ : ∃ g, g = w.heap.size := ⟨_, rfl⟩
  have hB : Below w.heap.size w W := by rw [hW]; (repeat (first | exact Below.refl _ _ | refine ext_alloc ?_ _ | refine Below.setCell ?_ (by simp) _))
  have hq : W.heap[g]? = some (.cells #[.slice A0 s.1.length c0, .slice A1 s.2.length c1] 25 (0, 0)) := by rw [hW, hg]; exact block_in (heap_alloc_new _ _) (below_alloc _ _)
  have hq2 : W.heap[g + 1]? = some (.cells #[.int .i64 r.k, .int .i64 r.n, .string r.s, .slice A r.ps.length c] 28 (0, 0)) := by rw [hW, hg]; exact heap_alloc_at (by simp)
  replace hU := hU.below hB
  replace hS := hS.below hB
  obtain ⟨q0, q1⟩ := cells2 hq
  have HQ := Lib.hid hq
  have HQ2 := Lib.hid hq2
  have HW := Lib.hid hW
  have HG := Lib.hid hg
  have HF : Hid (koX d s r = if (scOk s && exOk r) = true then kiR (d + 1) s r else 0) := Lib.hid rfl
  clear hW hg hq hq2
  go_enter Try.func60, Try.ntmps60
  go_wp2_with fail
  rw [← HW.out, ← HG.out]
  refine (specSchemaValid hS hz.1 hz.2).mono ?_
  rintro e w1 ⟨rfl, hb⟩
  replace hB := ext_trans hB hb
  replace hU := hU.below hb
  replace hS := hS.below hb
  have HQ := Lib.hid (block_in HQ.out hb)
  have HQ2 := Lib.hid (block_in HQ2.out hb)
  obtain ⟨p0, p1, p2, p3⟩ := cells4 HQ2.out
  clear hb q0 q1
  cases g1 : scOk s
  · rw [g1] at HF
    go_wp2
    go_ret
    exact ⟨by rw [HF.out]; rfl, hB⟩
  · rw [g1] at HF
    go_wp2_with fail
    refine (specExprValid hU hs hcn).mono ?_
    rintro e w2 ⟨rfl, hb⟩
    replace hB := ext_trans hB hb
    replace hU := hU.below hb
    replace hS := hS.below hb
    have HQ := Lib.hid (block_in HQ.out hb)
    have HQ2 := Lib.hid (block_in HQ2.out hb)
    obtain ⟨q0, q1⟩ := cells2 HQ.out
    clear hb p0 p1 p2 p3
    obtain ⟨p0, p1, p2, p3⟩ := cells4 HQ2.out
    cases g2 : exOk r
    · rw [g2] at HF
      go_wp2
      go_ret
      exact ⟨by rw [HF.out]; rfl, hB⟩
    · rw [g2] at HF
      have HGD := Lib.hid (ok_parts HIN.out g2).1
      go_wp2_with fail
      refine (ksQ_all d _ _ _ _ _ _ _ _ _ hS hU HGD.out).mono ?_
      rintro e w3 ⟨rfl, hb⟩
      replace hB := ext_trans hB hb
      clear hb p0 p1 p2 p3 q0 q1
      go_wp2
      go_ret
      exact ⟨by rw [HF.out]; rfl, hB⟩
set_option maxRecDepth 100000 in
set_option maxHeartbeats 4000000 in
theorem implKindOf {d : Nat} {s : Sc} {A0 A1 : Option Addr} {c0 c1 : Nat} {A : Option Addr} {r : Ex} {c : Nat} {w : World} (hS : scR w A0 A1 s) (hz : scZ s) (hc0 : s.1.length ≤ c0) (hc1 : s.2.length ≤ c1) (hU : exW d w A r.ps) (hs : r.s.size ≤ 9223372036854775807) :
    Calls Try.prog 18 #[scV s A0 c0 A1 c1, .agg #[.int .i64 r.k, .int .i64 r.n, .string r.s, .slice A r.ps.length c]] w fun e w' => e = .returned (.int .i64 (koX d s r)) ∧ Below w.heap.size w w' := by
  unfold scV
  have HIN := Lib.hid (exS_in hU)
  obtain ⟨W, hW⟩ : ∃ W, W = (w.alloc (.cells #[.slice A0 s.1.length c0, .slice A1 s.2.length c1] 25)).alloc (.cells #[.int .i64 r.k, .int .i64 r.n, .string r.s, .slice A r.ps.length c] 28) := ⟨_, rfl⟩
  obtain ⟨g, hg⟩ : ∃ g, g = w.heap.size := ⟨_, rfl⟩
  have hB : Below w.heap.size w W := by rw [hW]; (repeat (first | exact Below.refl _ _ | refine ext_alloc ?_ _ | refine Below.setCell ?_ (by simp) _))
  have hq : W.heap[g]? = some (.cells #[.slice A0 s.1.length c0, .slice A1 s.2.length c1] 25 (0, 0)) := by rw [hW, hg]; exact block_in (heap_alloc_new _ _) (below_alloc _ _)
  have hq2 : W.heap[g + 1]? = some (.cells #[.int .i64 r.k, .int .i64 r.n, .string r.s, .slice A r.ps.length c] 28 (0, 0)) := by rw [hW, hg]; exact heap_alloc_at (by simp)
  replace hU := hU.below hB
  replace hS := hS.below hB
  obtain ⟨q0, q1⟩ := cells2 hq
  have HQ := Lib.hid hq
  have HQ2 := Lib.hid hq2
  have HW := Lib.hid hW
  have HG := Lib.hid hg
  have HF : Hid (koX d s r = if (scOk s && exOk r) = true then kiR (d + 1) s r else 0) := Lib.hid rfl
  clear hW hg hq hq2
  go_enter Try.func18, Try.ntmps18
  go_wp2_with fail
  rw [← HW.out, ← HG.out]
  refine (implSchemaValid hS hz.1 hz.2 hc0 hc1).mono ?_
  rintro e w1 ⟨rfl, hb⟩
  replace hB := ext_trans hB hb
  replace hU := hU.below hb
  replace hS := hS.below hb
  have HQ := Lib.hid (block_in HQ.out hb)
  have HQ2 := Lib.hid (block_in HQ2.out hb)
  obtain ⟨p0, p1, p2, p3⟩ := cells4 HQ2.out
  clear hb q0 q1
  cases g1 : scOk s
  · rw [g1] at HF
    go_wp2
    go_ret
    exact ⟨by rw [HF.out]; rfl, hB⟩
  · rw [g1] at HF
    go_wp2_with fail
    refine (implExprValid hU hs).mono ?_
    rintro e w2 ⟨rfl, hb⟩
    replace hB := ext_trans hB hb
    replace hU := hU.below hb
    replace hS := hS.below hb
    have HQ := Lib.hid (block_in HQ.out hb)
    have HQ2 := Lib.hid (block_in HQ2.out hb)
    obtain ⟨q0, q1⟩ := cells2 HQ.out
    clear hb p0 p1 p2 p3
    obtain ⟨p0, p1, p2, p3⟩ := cells4 HQ2.out
    cases g2 : exOk r
    · rw [g2] at HF
      go_wp2
      go_ret
      exact ⟨by rw [HF.out]; rfl, hB⟩
    · rw [g2] at HF
      have HGD := Lib.hid (ok_parts HIN.out g2).1
      go_wp2_with fail
      refine (kiQ_all d _ _ _ _ _ _ _ _ _ hS hU HGD.out).mono ?_
      rintro e w3 ⟨rfl, hb⟩
      replace hB := ext_trans hB hb
      clear hb p0 p1 p2 p3 q0 q1
      go_wp2
      go_ret
      exact ⟨by rw [HF.out]; rfl, hB⟩
set_option maxRecDepth 100000 in
set_option maxHeartbeats 4000000 in
theorem specPolicyValid {d : Nat} {p : Po} {A : Option Addr} {c : Nat} {w : World} (hU : exW d w A p.wh.ps) (hz : poZ p) (hcn : cntS d p.wh.ps ≤ 2097152) :
    Calls Try.prog 58 #[poV p A c] w fun e w' => e = .returned (.bool (poOk p)) ∧ Below w.heap.size w w' := by
  unfold poV
  obtain ⟨W, hW⟩ : ∃ W, W = w.alloc (.cells #[.string p.nm, .bool p.al, .int .i64 p.who, .int .i64 p.what, .int .i64 p.acts, .int .i64 p.wh.k, .int .i64 p.wh.n, .string p.wh.s, .slice A p.wh.ps.length c] 30) := ⟨_, rfl⟩
  obtain ⟨g, hg⟩ : ∃ g, g = w.heap.size := ⟨_, rfl⟩
  have hB : Below w.heap.size w W := by rw [hW]; exact below_alloc _ _
  have hq : W.heap[g]? = some (.cells #[.string p.nm, .bool p.al, .int .i64 p.who, .int .i64 p.what, .int .i64 p.acts, .int .i64 p.wh.k, .int .i64 p.wh.n, .string p.wh.s, .slice A p.wh.ps.length c] 30 (0, 0)) := by rw [hW, hg]; exact heap_alloc_new _ _
  replace hU := hU.below hB
  obtain ⟨q0, q1, q2, q3, q4, q5, q6, q7, q8⟩ := cells9 hq
  have HQ := Lib.hid hq
  have HW := Lib.hid hW
  have HG := Lib.hid hg
  have HF : Hid (poOk p = (nmOk p.nm && (inB p.who (-2) 6 && (inB p.what (-1) 6 && (inB p.acts 1 15 && exOk p.wh))))) := Lib.hid rfl
  clear hW hg hq
  go_enter Try.func58, Try.ntmps58
  go_wp2_with fail
  rw [← HW.out, ← HG.out]
  refine (specNameValid _ hz.2 _).mono ?_
  rintro e w1 ⟨rfl, hb⟩
  replace hB := ext_trans hB hb
  replace hU := hU.below hb
  have HQ := Lib.hid (block_in HQ.out hb)
  clear hb q0 q1 q2 q3 q4 q5 q6 q7 q8
  obtain ⟨q0, q1, q2, q3, q4, q5, q6, q7, q8⟩ := cells9 HQ.out
  cases g0 : nmOk p.nm
  · rw [g0] at HF
    go_wp2
    go_ret
    exact ⟨by rw [HF.out]; rfl, hB⟩
  · rw [g0] at HF
    go_wp2_with fail
    refine (l1In_any _ _ _ _).mono ?_
    rintro e w2 ⟨rfl, hb⟩
    replace hB := ext_trans hB hb
    replace hU := hU.below hb
    have HQ := Lib.hid (block_in HQ.out hb)
    clear hb q0 q1 q2 q3 q4 q5 q6 q7 q8
    obtain ⟨q0, q1, q2, q3, q4, q5, q6, q7, q8⟩ := cells9 HQ.out
    cases g1 : inB p.who (-2) 6
    · rw [g1] at HF
      go_wp2
      go_ret
      exact ⟨by rw [HF.out]; rfl, hB⟩
    · rw [g1] at HF
      go_wp2_with fail
      refine (l1In_any _ _ _ _).mono ?_
      rintro e w3 ⟨rfl, hb⟩
      replace hB := ext_trans hB hb
      replace hU := hU.below hb
      have HQ := Lib.hid (block_in HQ.out hb)
      clear hb q0 q1 q2 q3 q4 q5 q6 q7 q8
      obtain ⟨q0, q1, q2, q3, q4, q5, q6, q7, q8⟩ := cells9 HQ.out
      cases g2 : inB p.what (-1) 6
      · rw [g2] at HF
        go_wp2
        go_ret
        exact ⟨by rw [HF.out]; rfl, hB⟩
      · rw [g2] at HF
        go_wp2_with fail
        refine (l1In_any _ _ _ _).mono ?_
        rintro e w4 ⟨rfl, hb⟩
        replace hB := ext_trans hB hb
        replace hU := hU.below hb
        have HQ := Lib.hid (block_in HQ.out hb)
        clear hb q0 q1 q2 q3 q4 q5 q6 q7 q8
        obtain ⟨q0, q1, q2, q3, q4, q5, q6, q7, q8⟩ := cells9 HQ.out
        cases g3 : inB p.acts 1 15
        · rw [g3] at HF
          go_wp2
          go_ret
          exact ⟨by rw [HF.out]; rfl, hB⟩
        · rw [g3] at HF
          go_wp2_with fail
          refine (specExprValid hU hz.1 hcn).mono ?_
          rintro e w5 ⟨rfl, hb⟩
          replace hB := ext_trans hB hb
          replace hU := hU.below hb
          have HQ := Lib.hid (block_in HQ.out hb)
          clear hb q0 q1 q2 q3 q4 q5 q6 q7 q8
          obtain ⟨q0, q1, q2, q3, q4, q5, q6, q7, q8⟩ := cells9 HQ.out
          cases g4 : exOk p.wh
          · rw [g4] at HF
            go_wp2
            go_ret
            exact ⟨by rw [HF.out]; rfl, hB⟩
          · rw [g4] at HF
            go_wp2
            go_ret
            exact ⟨by rw [HF.out]; rfl, hB⟩
set_option maxRecDepth 100000 in
set_option maxHeartbeats 4000000 in
theorem implPolicyValid {d : Nat} {p : Po} {A : Option Addr} {c : Nat} {w : World} (hU : exW d w A p.wh.ps) (hz : poZ p) :
    Calls Try.prog 56 #[poV p A c] w fun e w' => e = .returned (.bool (poOk p)) ∧ Below w.heap.size w w' := by
  unfold poV
  obtain ⟨W, hW⟩ : ∃ W, W = w.alloc (.cells #[.string p.nm, .bool p.al, .int .i64 p.who, .int .i64 p.what, .int .i64 p.acts, .int .i64 p.wh.k, .int .i64 p.wh.n, .string p.wh.s, .slice A p.wh.ps.length c] 30) := ⟨_, rfl⟩
  obtain ⟨g, hg⟩ : ∃ g, g = w.heap.size := ⟨_, rfl⟩
  have hB : Below w.heap.size w W := by rw [hW]; exact below_alloc _ _
  have hq : W.heap[g]? = some (.cells #[.string p.nm, .bool p.al, .int .i64 p.who, .int .i64 p.what, .int .i64 p.acts, .int .i64 p.wh.k, .int .i64 p.wh.n, .string p.wh.s, .slice A p.wh.ps.length c] 30 (0, 0)) := by rw [hW, hg]; exact heap_alloc_new _ _
  replace hU := hU.below hB
  obtain ⟨q0, q1, q2, q3, q4, q5, q6, q7, q8⟩ := cells9 hq
  have HQ := Lib.hid hq
  have HW := Lib.hid hW
  have HG := Lib.hid hg
  have HF : Hid (poOk p = (nmOk p.nm && (inB p.who (-2) 6 && (inB p.what (-1) 6 && (inB p.acts 1 15 && exOk p.wh))))) := Lib.hid rfl
  clear hW hg hq
  go_enter Try.func56, Try.ntmps56
  go_wp2_with fail
  rw [← HW.out, ← HG.out]
  refine (implNameValid _ hz.2 _).mono ?_
  rintro e w1 ⟨rfl, hb⟩
  replace hB := ext_trans hB hb
  replace hU := hU.below hb
  have HQ := Lib.hid (block_in HQ.out hb)
  clear hb q0 q1 q2 q3 q4 q5 q6 q7 q8
  obtain ⟨q0, q1, q2, q3, q4, q5, q6, q7, q8⟩ := cells9 HQ.out
  cases g0 : nmOk p.nm
  · rw [g0] at HF
    go_wp2
    go_ret
    exact ⟨by rw [HF.out]; rfl, hB⟩
  · rw [g0] at HF
    go_wp2_with fail
    refine (in_any _ _ _ _).mono ?_
    rintro e w2 ⟨rfl, hb⟩
    replace hB := ext_trans hB hb
    replace hU := hU.below hb
    have HQ := Lib.hid (block_in HQ.out hb)
    clear hb q0 q1 q2 q3 q4 q5 q6 q7 q8
    obtain ⟨q0, q1, q2, q3, q4, q5, q6, q7, q8⟩ := cells9 HQ.out
    cases g1 : inB p.who (-2) 6
    · rw [g1] at HF
      go_wp2
      go_ret
      exact ⟨by rw [HF.out]; rfl, hB⟩
    · rw [g1] at HF
      go_wp2_with fail
      refine (in_any _ _ _ _).mono ?_
      rintro e w3 ⟨rfl, hb⟩
      replace hB := ext_trans hB hb
      replace hU := hU.below hb
      have HQ := Lib.hid (block_in HQ.out hb)
      clear hb q0 q1 q2 q3 q4 q5 q6 q7 q8
      obtain ⟨q0, q1, q2, q3, q4, q5, q6, q7, q8⟩ := cells9 HQ.out
      cases g2 : inB p.what (-1) 6
      · rw [g2] at HF
        go_wp2
        go_ret
        exact ⟨by rw [HF.out]; rfl, hB⟩
      · rw [g2] at HF
        go_wp2_with fail
        refine (in_any _ _ _ _).mono ?_
        rintro e w4 ⟨rfl, hb⟩
        replace hB := ext_trans hB hb
        replace hU := hU.below hb
        have HQ := Lib.hid (block_in HQ.out hb)
        clear hb q0 q1 q2 q3 q4 q5 q6 q7 q8
        obtain ⟨q0, q1, q2, q3, q4, q5, q6, q7, q8⟩ := cells9 HQ.out
        cases g3 : inB p.acts 1 15
        · rw [g3] at HF
          go_wp2
          go_ret
          exact ⟨by rw [HF.out]; rfl, hB⟩
        · rw [g3] at HF
          go_wp2_with fail
          refine (implExprValid hU hz.1).mono ?_
          rintro e w5 ⟨rfl, hb⟩
          replace hB := ext_trans hB hb
          replace hU := hU.below hb
          have HQ := Lib.hid (block_in HQ.out hb)
          clear hb q0 q1 q2 q3 q4 q5 q6 q7 q8
          obtain ⟨q0, q1, q2, q3, q4, q5, q6, q7, q8⟩ := cells9 HQ.out
          cases g4 : exOk p.wh
          · rw [g4] at HF
            go_wp2
            go_ret
            exact ⟨by rw [HF.out]; rfl, hB⟩
          · rw [g4] at HF
            go_wp2
            go_ret
            exact ⟨by rw [HF.out]; rfl, hB⟩
end Go.Proofs.Ytodjokdaofefdaa
/- What is wrong with a policy: by both. -/
namespace Go.Proofs.Ytodjokdaofefdaa
set_option linter.unusedSimpArgs false
set_option linter.unusedVariables false
open Go.RowKit

section
variable {d : Nat} {s : Sc} {many : Int} {p : Po}
theorem ck_bad (h : (scOk s && (poOk p && inB many 0 7)) = false) : ckX d s many p = -1 := by rw [ckX, if_pos h]
theorem ck_kind (h : (scOk s && (poOk p && inB many 0 7)) = true) (h1 : kiR (d + 1) s p.wh ≠ 1) : ckX d s many p = 1 := by rw [ckX, if_neg (by rw [h]; decide), if_pos h1]
theorem ck_thing (h : (scOk s && (poOk p && inB many 0 7)) = true) (h1 : kiR (d + 1) s p.wh = 1) (h2 : many ≤ p.who ∨ many ≤ p.what ∨ many ≤ thR (d + 1) p.wh) : ckX d s many p = 2 := by
  rw [ckX, if_neg (by rw [h]; decide), if_neg (by simp [h1]), if_pos h2]
theorem ck_guard (h : (scOk s && (poOk p && inB many 0 7)) = true) (h1 : kiR (d + 1) s p.wh = 1) (h2 : ¬ (many ≤ p.who ∨ many ≤ p.what ∨ many ≤ thR (d + 1) p.wh)) (h3 : guOk d p.wh = false) : ckX d s many p = 3 := by
  rw [ckX, if_neg (by rw [h]; decide), if_neg (by simp [h1]), if_neg h2, if_pos h3]
theorem ck_good (h : (scOk s && (poOk p && inB many 0 7)) = true) (h1 : kiR (d + 1) s p.wh = 1) (h2 : ¬ (many ≤ p.who ∨ many ≤ p.what ∨ many ≤ thR (d + 1) p.wh)) (h3 : guOk d p.wh = true) : ckX d s many p = 0 := by
  rw [ckX, if_neg (by rw [h]; decide), if_neg (by simp [h1]), if_neg h2, if_neg (by rw [h3]; decide)]
theorem po_exOk (h : poOk p = true) : exOk p.wh = true := by
  simp only [poOk, Bool.and_eq_true] at h
  exact h.2.2.2.2
end

set_option maxRecDepth 100000 in
set_option maxHeartbeats 8000000 in
theorem specCheckPolicy {d : Nat} {s : Sc} {A0 A1 : Option Addr} {c0 c1 : Nat} {many : Int} {p : Po} {A : Option Addr} {c : Nat} {w : World} (hS : scR w A0 A1 s) (hz : scZ s) (hU : exW d w A p.wh.ps) (hp : poZ p) (hcn : cntS d p.wh.ps ≤ 2097152) :
    Calls Try.prog 13 #[scV s A0 c0 A1 c1, .int .i64 many, poV p A c] w fun e w' => e = .returned (.int .i64 (ckX d s many p)) ∧ Below w.heap.size w w' := by
  unfold scV poV
  obtain ⟨W, hW⟩ : ∃ W, W = (w.alloc (.cells #[.slice A0 s.1.length c0, .slice A1 s.2.length c1] 25)).alloc (.cells #[.string p.nm, .bool p.al, .int .i64 p.who, .int .i64 p.what, .int .i64 p.acts, .int .i64 p.wh.k, .int .i64 p.wh.n, .string p.wh.s, .slice A p.wh.ps.length c] 30) := ⟨_, rfl⟩
  obtain ⟨g, hg⟩ : ∃ g, g = w.heap.size := ⟨_, rfl⟩
  have hB : Below w.heap.size w W := by rw [hW]; (repeat (first | exact Below.refl _ _ | refine ext_alloc ?_ _ | refine Below.setCell ?_ (by simp) _))
  have hq : W.heap[g]? = some (.cells #[.slice A0 s.1.length c0, .slice A1 s.2.length c1] 25 (0, 0)) := by rw [hW, hg]; exact block_in (heap_alloc_new _ _) (below_alloc _ _)
  have hq2 : W.heap[g + 1]? = some (.cells #[.string p.nm, .bool p.al, .int .i64 p.who, .int .i64 p.what, .int .i64 p.acts, .int .i64 p.wh.k, .int .i64 p.wh.n, .string p.wh.s, .slice A p.wh.ps.length c] 30 (0, 0)) := by rw [hW, hg]; exact heap_alloc_at (by simp)
  replace hU := hU.below hB
  replace hS := hS.below hB
  obtain ⟨z0, z1⟩ := cells2 hq
  obtain ⟨q0, q1, q2, q3, q4, q5, q6, q7, q8⟩ := cells9 hq2
  have HQ := Lib.hid hq
  have HQ2 := Lib.hid hq2
  have HW := Lib.hid hW
  have HG := Lib.hid hg
  clear hW hg hq hq2
  go_enter Try.func13, Try.ntmps13
  go_wp2_with fail
  rw [← HW.out, ← HG.out]
  refine (specSchemaValid hS hz.1 hz.2).mono ?_
  rintro e w1 ⟨rfl, hb⟩
  replace hB := ext_trans hB hb
  replace hU := hU.below hb
  replace hS := hS.below hb
  have HQ := Lib.hid (block_in HQ.out hb)
  have HQ2 := Lib.hid (block_in HQ2.out hb)
  clear hb z0 z1 q0 q1 q2 q3 q4 q5 q6 q7 q8
  obtain ⟨z0, z1⟩ := cells2 HQ.out
  obtain ⟨q0, q1, q2, q3, q4, q5, q6, q7, q8⟩ := cells9 HQ2.out
  cases g0 : scOk s
  · have HE : Hid (ckX d s many p = -1) := Lib.hid (ck_bad (by simp [g0]))
    go_wp2
    go_ret
    exact ⟨by rw [HE.out]; rfl, hB⟩
  · skip
    go_wp2_with fail
    refine (specPolicyValid hU hp hcn).mono ?_
    rintro e w2 ⟨rfl, hb⟩
    replace hB := ext_trans hB hb
    replace hU := hU.below hb
    replace hS := hS.below hb
    have HQ := Lib.hid (block_in HQ.out hb)
    have HQ2 := Lib.hid (block_in HQ2.out hb)
    clear hb z0 z1 q0 q1 q2 q3 q4 q5 q6 q7 q8
    obtain ⟨z0, z1⟩ := cells2 HQ.out
    obtain ⟨q0, q1, q2, q3, q4, q5, q6, q7, q8⟩ := cells9 HQ2.out
    cases g1 : poOk p
    · have HE : Hid (ckX d s many p = -1) := Lib.hid (ck_bad (by simp [g1]))
      go_wp2
      go_ret
      exact ⟨by rw [HE.out]; rfl, hB⟩
    · skip
      go_wp2_with fail
      refine (l1In_any _ _ _ _).mono ?_
      rintro e w3 ⟨rfl, hb⟩
      replace hB := ext_trans hB hb
      replace hU := hU.below hb
      replace hS := hS.below hb
      have HQ := Lib.hid (block_in HQ.out hb)
      have HQ2 := Lib.hid (block_in HQ2.out hb)
      clear hb z0 z1 q0 q1 q2 q3 q4 q5 q6 q7 q8
      obtain ⟨z0, z1⟩ := cells2 HQ.out
      obtain ⟨q0, q1, q2, q3, q4, q5, q6, q7, q8⟩ := cells9 HQ2.out
      cases g2 : inB many 0 7
      · have HE : Hid (ckX d s many p = -1) := Lib.hid (ck_bad (by simp [g2]))
        go_wp2
        go_ret
        exact ⟨by rw [HE.out]; rfl, hB⟩
      · skip
        have hall : (scOk s && (poOk p && inB many 0 7)) = true := by rw [g0, g1, g2]; rfl
        have hko : koX d s p.wh = kiR (d + 1) s p.wh := by rw [koX, if_pos (by rw [g0, po_exOk g1]; rfl)]
        have hm0 : 0 ≤ many := (inB_true.1 g2).1
        have HA := Lib.hid hall
        obtain ⟨kx, hkx⟩ : ∃ k, kiR (d + 1) s p.wh = k := ⟨_, rfl⟩
        rw [hkx] at hko
        have HKX := Lib.hid hkx
        have HKO := Lib.hid hko
        clear hall hkx hko g0 g1 g2
        go_wp2_with fail
        refine (specKindOf hS hz hU hp.1 hcn).mono ?_
        rintro e w4 ⟨rfl, hb⟩
        replace hB := ext_trans hB hb
        replace hU := hU.below hb
        replace hS := hS.below hb
        have HQ := Lib.hid (block_in HQ.out hb)
        have HQ2 := Lib.hid (block_in HQ2.out hb)
        clear hb z0 z1 q0 q1 q2 q3 q4 q5 q6 q7 q8
        obtain ⟨z0, z1⟩ := cells2 HQ.out
        obtain ⟨q0, q1, q2, q3, q4, q5, q6, q7, q8⟩ := cells9 HQ2.out
        rw [HKO.out]
        by_cases hk : kx = 1
        · skip
          have hkb : (kx != 1) = false := by simpa using hk
          have HK1 := Lib.hid (HKX.out.trans hk)
          clear hk
          obtain ⟨t, ht⟩ : ∃ t, thR (d + 1) p.wh = t := ⟨_, rfl⟩
          have HT := Lib.hid ht
          clear ht
          by_cases h0 : many ≤ p.who
          · have HE : Hid (ckX d s many p = 2) := Lib.hid (ck_thing HA.out HK1.out (.inl h0))
            go_wp2
            go_ret
            exact ⟨by rw [HE.out]; rfl, hB⟩
          · skip
            by_cases h1 : many ≤ p.what
            · have HE : Hid (ckX d s many p = 2) := Lib.hid (ck_thing HA.out HK1.out (.inr (.inl h1)))
              go_wp2
              go_ret
              exact ⟨by rw [HE.out]; rfl, hB⟩
            · skip
              go_wp2_with fail
              refine (thQ_all d _ _ _ _ hU).mono ?_
              rintro e w5 ⟨rfl, hb⟩
              replace hB := ext_trans hB hb
              replace hU := hU.below hb
              replace hS := hS.below hb
              have HQ := Lib.hid (block_in HQ.out hb)
              have HQ2 := Lib.hid (block_in HQ2.out hb)
              clear hb z0 z1 q0 q1 q2 q3 q4 q5 q6 q7 q8
              obtain ⟨z0, z1⟩ := cells2 HQ.out
              obtain ⟨q0, q1, q2, q3, q4, q5, q6, q7, q8⟩ := cells9 HQ2.out
              rw [HT.out]
              by_cases h2 : many ≤ t
              · have HE : Hid (ckX d s many p = 2) := Lib.hid (ck_thing HA.out HK1.out (.inr (.inr (by rw [HT.out]; exact h2))))
                go_wp2
                go_ret
                exact ⟨by rw [HE.out]; rfl, hB⟩
              · skip
                have hno : ¬ (many ≤ p.who ∨ many ≤ p.what ∨ many ≤ thR (d + 1) p.wh) := by rw [HT.out]; omega
                have HNO := Lib.hid hno
                clear hno
                go_wp2_with fail
                refine (specGuarded hU hp.1 hcn).mono ?_
                rintro e w6 ⟨rfl, hb⟩
                replace hB := ext_trans hB hb
                replace hU := hU.below hb
                replace hS := hS.below hb
                have HQ := Lib.hid (block_in HQ.out hb)
                have HQ2 := Lib.hid (block_in HQ2.out hb)
                clear hb z0 z1 q0 q1 q2 q3 q4 q5 q6 q7 q8
                obtain ⟨z0, z1⟩ := cells2 HQ.out
                obtain ⟨q0, q1, q2, q3, q4, q5, q6, q7, q8⟩ := cells9 HQ2.out
                cases gg : guOk d p.wh
                · have HE : Hid (ckX d s many p = 3) := Lib.hid (ck_guard HA.out HK1.out HNO.out gg)
                  go_wp2
                  go_ret
                  exact ⟨by rw [HE.out]; rfl, hB⟩
                · have HE : Hid (ckX d s many p = 0) := Lib.hid (ck_good HA.out HK1.out HNO.out gg)
                  go_wp2
                  go_ret
                  exact ⟨by rw [HE.out]; rfl, hB⟩
        · have hkb : (kx != 1) = true := by simpa using hk
          have HE : Hid (ckX d s many p = 1) := Lib.hid (ck_kind HA.out (by rw [HKX.out]; exact hk))
          go_wp2
          go_ret
          exact ⟨by rw [HE.out]; rfl, hB⟩
set_option maxRecDepth 100000 in
set_option maxHeartbeats 8000000 in
theorem implCheckPolicy {d : Nat} {s : Sc} {A0 A1 : Option Addr} {c0 c1 : Nat} {many : Int} {p : Po} {A : Option Addr} {c : Nat} {w : World} (hS : scR w A0 A1 s) (hz : scZ s) (hc0 : s.1.length ≤ c0) (hc1 : s.2.length ≤ c1) (hU : exW d w A p.wh.ps) (hp : poZ p) :
    Calls Try.prog 12 #[scV s A0 c0 A1 c1, .int .i64 many, poV p A c] w fun e w' => e = .returned (.int .i64 (ckX d s many p)) ∧ Below w.heap.size w w' := by
  unfold scV poV
  obtain ⟨W, hW⟩ : ∃ W, W = (w.alloc (.cells #[.slice A0 s.1.length c0, .slice A1 s.2.length c1] 25)).alloc (.cells #[.string p.nm, .bool p.al, .int .i64 p.who, .int .i64 p.what, .int .i64 p.acts, .int .i64 p.wh.k, .int .i64 p.wh.n, .string p.wh.s, .slice A p.wh.ps.length c] 30) := ⟨_, rfl⟩
  obtain ⟨g, hg⟩ : ∃ g, g = w.heap.size := ⟨_, rfl⟩
  have hB : Below w.heap.size w W := by rw [hW]; (repeat (first | exact Below.refl _ _ | refine ext_alloc ?_ _ | refine Below.setCell ?_ (by simp) _))
  have hq : W.heap[g]? = some (.cells #[.slice A0 s.1.length c0, .slice A1 s.2.length c1] 25 (0, 0)) := by rw [hW, hg]; exact block_in (heap_alloc_new _ _) (below_alloc _ _)
  have hq2 : W.heap[g + 1]? = some (.cells #[.string p.nm, .bool p.al, .int .i64 p.who, .int .i64 p.what, .int .i64 p.acts, .int .i64 p.wh.k, .int .i64 p.wh.n, .string p.wh.s, .slice A p.wh.ps.length c] 30 (0, 0)) := by rw [hW, hg]; exact heap_alloc_at (by simp)
  replace hU := hU.below hB
  replace hS := hS.below hB
  obtain ⟨z0, z1⟩ := cells2 hq
  obtain ⟨q0, q1, q2, q3, q4, q5, q6, q7, q8⟩ := cells9 hq2
  have HQ := Lib.hid hq
  have HQ2 := Lib.hid hq2
  have HW := Lib.hid hW
  have HG := Lib.hid hg
  clear hW hg hq hq2
  go_enter Try.func12, Try.ntmps12
  go_wp2_with fail
  rw [← HW.out, ← HG.out]
  refine (implSchemaValid hS hz.1 hz.2 hc0 hc1).mono ?_
  rintro e w1 ⟨rfl, hb⟩
  replace hB := ext_trans hB hb
  replace hU := hU.below hb
  replace hS := hS.below hb
  have HQ := Lib.hid (block_in HQ.out hb)
  have HQ2 := Lib.hid (block_in HQ2.out hb)
  clear hb z0 z1 q0 q1 q2 q3 q4 q5 q6 q7 q8
  obtain ⟨z0, z1⟩ := cells2 HQ.out
  obtain ⟨q0, q1, q2, q3, q4, q5, q6, q7, q8⟩ := cells9 HQ2.out
  cases g0 : scOk s
  · have HE : Hid (ckX d s many p = -1) := Lib.hid (ck_bad (by simp [g0]))
    go_wp2
    go_ret
    exact ⟨by rw [HE.out]; rfl, hB⟩
  · skip
    go_wp2_with fail
    refine (in_any _ _ _ _).mono ?_
    rintro e w2 ⟨rfl, hb⟩
    replace hB := ext_trans hB hb
    replace hU := hU.below hb
    replace hS := hS.below hb
    have HQ := Lib.hid (block_in HQ.out hb)
    have HQ2 := Lib.hid (block_in HQ2.out hb)
    clear hb z0 z1 q0 q1 q2 q3 q4 q5 q6 q7 q8
    obtain ⟨z0, z1⟩ := cells2 HQ.out
    obtain ⟨q0, q1, q2, q3, q4, q5, q6, q7, q8⟩ := cells9 HQ2.out
    cases g1 : inB many 0 7
    · have HE : Hid (ckX d s many p = -1) := Lib.hid (ck_bad (by simp [g1]))
      go_wp2
      go_ret
      exact ⟨by rw [HE.out]; rfl, hB⟩
    · skip
      go_wp2_with fail
      refine (implPolicyValid hU hp).mono ?_
      rintro e w3 ⟨rfl, hb⟩
      replace hB := ext_trans hB hb
      replace hU := hU.below hb
      replace hS := hS.below hb
      have HQ := Lib.hid (block_in HQ.out hb)
      have HQ2 := Lib.hid (block_in HQ2.out hb)
      clear hb z0 z1 q0 q1 q2 q3 q4 q5 q6 q7 q8
      obtain ⟨z0, z1⟩ := cells2 HQ.out
      obtain ⟨q0, q1, q2, q3, q4, q5, q6, q7, q8⟩ := cells9 HQ2.out
      cases g2 : poOk p
      · have HE : Hid (ckX d s many p = -1) := Lib.hid (ck_bad (by simp [g2]))
        go_wp2
        go_ret
        exact ⟨by rw [HE.out]; rfl, hB⟩
      · skip
        have hall : (scOk s && (poOk p && inB many 0 7)) = true := by rw [g0, g1, g2]; rfl
        have hko : koX d s p.wh = kiR (d + 1) s p.wh := by rw [koX, if_pos (by rw [g0, po_exOk g2]; rfl)]
        have hm0 : 0 ≤ many := (inB_true.1 g1).1
        have hth : thX d p.wh = max (-1) (thR (d + 1) p.wh) := by rw [thX, if_pos (po_exOk g2)]
        have HA := Lib.hid hall
        obtain ⟨kx, hkx⟩ : ∃ k, kiR (d + 1) s p.wh = k := ⟨_, rfl⟩
        rw [hkx] at hko
        have HKX := Lib.hid hkx
        have HKO := Lib.hid hko
        clear hall hkx hko g0 g1 g2
        go_wp2_with fail
        refine (implKindOf hS hz hc0 hc1 hU hp.1).mono ?_
        rintro e w4 ⟨rfl, hb⟩
        replace hB := ext_trans hB hb
        replace hU := hU.below hb
        replace hS := hS.below hb
        have HQ := Lib.hid (block_in HQ.out hb)
        have HQ2 := Lib.hid (block_in HQ2.out hb)
        clear hb z0 z1 q0 q1 q2 q3 q4 q5 q6 q7 q8
        obtain ⟨z0, z1⟩ := cells2 HQ.out
        obtain ⟨q0, q1, q2, q3, q4, q5, q6, q7, q8⟩ := cells9 HQ2.out
        rw [HKO.out]
        by_cases hk : kx = 1
        · skip
          have hkb : (kx != 1) = false := by simpa using hk
          have HK1 := Lib.hid (HKX.out.trans hk)
          clear hk
          obtain ⟨t, ht⟩ : ∃ t, thR (d + 1) p.wh = t := ⟨_, rfl⟩
          have HT := Lib.hid ht
          rw [ht] at hth
          clear ht
          have HTX := Lib.hid hth
          clear hth
          have HTU : Hid (∀ (m : Nat) (os : Array Obj), Calls Try.prog 47 #[.agg #[.int .i64 p.wh.k, .int .i64 p.wh.n, .string p.wh.s, .slice A p.wh.ps.length c]] (Sort.grow (redrawn _ m) os) fun e w' => e = .returned (.int .i64 (max (-1) t)) ∧ Below _ _ w') := Lib.hid (fun m os => HTX.out ▸ implThingsUsed (hU.regrown m os) hp.1)
          have r0 := cell_regrown q0
          have r1 := cell_regrown q1
          have r2 := cell_regrown q2
          have r3 := cell_regrown q3
          have r4 := cell_regrown q4
          have r5 := cell_regrown q5
          have r6 := cell_regrown q6
          have r7 := cell_regrown q7
          have r8 := cell_regrown q8
          clear q0 q1 q2 q3 q4 q5 q6 q7 q8
          obtain ⟨mx, hmx⟩ : ∃ m, (if (if p.who < p.what then p.what else p.who) < max (-1) t then max (-1) t else if p.who < p.what then p.what else p.who) = m := ⟨_, rfl⟩
          have HMX := Lib.hid hmx
          have hor : (many ≤ p.who ∨ many ≤ p.what ∨ many ≤ t) ↔ many ≤ mx := by rw [← hmx]; constructor <;> intro h <;> (repeat' split at *) <;> omega
          have HOR := Lib.hid hor
          clear hor hmx
          go_wp2
          refine wp_region_quiet_below (by kernel_rfl) (by kernel_rfl) ?_
          repeat (go_big_quiet_step ((go_at_call 47; (with_reducible exact Calls.regrown_of (HTU.out _ _)))))
          refine wpQuiet_nil ?_
          intro w8 hw'regrown
          have hb := below_of_regrown hw'regrown (Nat.le_refl _)
          clear hw'regrown r0 r1 r2 r3 r4 r5 r6 r7 r8
          simp only [HMX.out]
          replace hB := ext_trans hB hb
          replace hU := hU.below hb
          have HQ2 := Lib.hid (block_in HQ2.out hb)
          clear hb
          obtain ⟨q0, q1, q2, q3, q4, q5, q6, q7, q8⟩ := cells9 HQ2.out
          by_cases hx : many ≤ mx
          · have HE : Hid (ckX d s many p = 2) := Lib.hid (ck_thing HA.out HK1.out (by rw [HT.out]; exact HOR.out.2 hx))
            go_wp2
            go_ret
            exact ⟨by rw [HE.out]; rfl, hB⟩
          · skip
            have HNO : Hid (¬ (many ≤ p.who ∨ many ≤ p.what ∨ many ≤ thR (d + 1) p.wh)) := Lib.hid (by rw [HT.out]; exact fun h => hx (HOR.out.1 h))
            go_wp2_with fail
            refine (implGuarded hU hp.1).mono ?_
            rintro e w9 ⟨rfl, hb⟩
            replace hB := ext_trans hB hb
            clear hb q0 q1 q2 q3 q4 q5 q6 q7 q8
            cases gg : guOk d p.wh
            · have HE : Hid (ckX d s many p = 3) := Lib.hid (ck_guard HA.out HK1.out HNO.out gg)
              go_wp2
              go_ret
              exact ⟨by rw [HE.out]; rfl, hB⟩
            · have HE : Hid (ckX d s many p = 0) := Lib.hid (ck_good HA.out HK1.out HNO.out gg)
              go_wp2
              go_ret
              exact ⟨by rw [HE.out]; rfl, hB⟩
        · have hkb : (kx != 1) = true := by simpa using hk
          have HE : Hid (ckX d s many p = 1) := Lib.hid (ck_kind HA.out (by rw [HKX.out]; exact hk))
          go_wp2
          go_ret
          exact ⟨by rw [HE.out]; rfl, hB⟩
end Go.Proofs.Ytodjokdaofefdaa
/- A map from texts to truths, made by the call. -/
namespace Go.Proofs.Ytodjokdaofefdaa
set_option linter.unusedSimpArgs false
set_option linter.unusedVariables false
open Go.RowKit Go.Maps

theorem str_key : Keyed Try.prog 9 := string_keyed Try.underlying9
theorem zeroBoolS (w : World) : (zeroValue 4).run Try.prog w = .ok (.bool false) w := by kernel_rfl
/-- Block b is a map of at most n entries that reads as the function f. -/
def MapS (w : World) (b n : Nat) (f : ByteArray → Bool) : Prop :=
  ∃ D : DataW Unit, w.ownsMap Try.prog 9 (plainElem Try.prog 4) b n D ∧ IsMap D ∧ ∀ x : ByteArray, x.size ≤ maxLen → D.atKey (.string x.data.toList) (.lit (.bool false)) = .lit (.bool (f x))
theorem MapS.made (w : World) : MapS (w.alloc (.map #[] 0)) w.heap.size 0 (fun _ => false) := ⟨_, World.ownsMap_made w _ _ _, isMap_empty, fun _ _ => rfl⟩
section
variable {w w' : World} {b n : Nat} {f : ByteArray → Bool}
theorem MapS.below (h : MapS w b n f) (hb : Below w.heap.size w w') : MapS w' b n f :=
  let ⟨D, h1, h2⟩ := h; ⟨D, h1.kept (row := Option.none) ⟨hb.os, hb.tape, hb.output, hb.size, fun k hk _ => hb.block k hk⟩ (by simp), h2⟩
theorem MapS.ext {g : ByteArray → Bool} (h : MapS w b n f) (he : ∀ x, f x = g x) : MapS w b n g := by
  obtain rfl : f = g := funext he
  exact h
theorem plainElemS_bool_inv {H : Type} {P : Program} {e : TypeId} (he : P.underlying e = some .bool) {v : Value} {z : DataW H × List MemPlace} (h : plainElem P e v = some z) : ∃ x, v = .bool x ∧ z = (.lit (.bool x), []) := by
  unfold plainElem at h
  rw [he] at h
  cases v <;> simp at h
  exact ⟨_, rfl, h.symm⟩
theorem keyS {x : ByteArray} (hx : x.size ≤ maxLen) : keyOf Try.prog 9 (.string x) = some (.string x.data.toList) := WideMaps.keyOf_string_mk Try.underlying9 hx
theorem MapS.look (h : MapS w b n f) {x : ByteArray} (hx : x.size ≤ maxLen) : (Instr.lookup 154 (.map (some b)) (.string x) false).run Try.prog w = .ok (.bool (f x)) w := by
  obtain ⟨D, h1, _, h3⟩ := h
  obtain ⟨v, ps, hrun, hv⟩ := h1.lookup str_key Try.underlying154 (zeroBoolS w) (plainElem_bool Try.underlying4 false) (keyS hx)
  obtain ⟨y, rfl, hy⟩ := plainElemS_bool_inv Try.underlying4 hv
  rw [h3 x hx] at hy
  simp only [Prod.mk.injEq, DataW.lit.injEq, Lit.bool.injEq] at hy
  rw [hrun, hy.1]
theorem wpList_put_mapS {ops : Array Oper} {rest : List Oper} {o : Oper} {a : Act} {Q : Exit → Act → World → Prop} (hg : o.guard = Option.none) (m x v : Operand) (hop : o.op = Op.mapUpdate 154 m x v)
    (h : MapS w b n f) (hm : a.eval m = .map (some b)) {k : ByteArray} (hx : a.eval x = .string k) {y : Bool} (hv : a.eval v = .bool y) (hk : k.size ≤ maxLen) (hn : n < 9223372036854775807)
    (hK : ∀ w', MapS w' b (n + 1) (fun z => if z = k then y else f z) → w.grownBy w' (some b) → wpList Try.prog ops Q rest (a.put o.dst undef) w') : wpList Try.prog ops Q (o :: rest) a w := by
  obtain ⟨D, h1, h2, h3⟩ := h
  have hkey := keyS hk
  refine wpList_mapUpdate_own w hg m x v 154 hop 9 4 str_key Try.underlying154 _ b n D hm h1 (by unfold maxLen; omega) _ _ _ hx hv hkey _ [] (plainElem_bool Try.underlying4 y) ?_
  intro w' hown hg'
  refine hK w' ⟨_, hown, h2.put _ _, fun z hz => ?_⟩ hg'
  show _ = DataW.lit (Lit.bool (if z = k then y else f z))
  by_cases e : z = k
  · subst e
    rw [if_pos rfl, atKey_put_same h2 (str_key.key hkey)]
  · rw [if_neg e, atKey_put_other (by
      simp only [ne_eq, Lit.string.injEq]
      intro hh
      exact e (ByteArray.ext (Array.toList_inj.1 hh))), h3 z hz]
end
end Go.Proofs.Ytodjokdaofefdaa
/- Policies: whether all are valid, whether all are safe: by both. -/
namespace Go.Proofs.Ytodjokdaofefdaa
set_option linter.unusedSimpArgs false
set_option linter.unusedVariables false
open Go.RowKit

theorem pos_no {l : PoL} {k : Nat} (hk : k < l.length) (h : ¬ PoP l k) : posOk l = false := cD_no (fun hh => h (hh.1 k hk))
def seenP (l : PoL) : Nat → ByteArray → Bool
  | 0 => fun _ => false
  | k + 1 => fun z => if z = (poAt l k).nm then true else seenP l k z
theorem seenP_iff (l : PoL) : ∀ (k : Nat) (z : ByteArray), seenP l k z = true ↔ ∃ j, j < k ∧ (poAt l j).nm = z
  | 0, z => by simp [seenP]
  | k + 1, z => by
    by_cases e : z = (poAt l k).nm
    · simp only [seenP, if_pos e, true_iff]; exact ⟨k, by omega, e.symm⟩
    · simp only [seenP, if_neg e]
      rw [seenP_iff l k z]
      constructor
      · rintro ⟨j, h1, h2⟩; exact ⟨j, by omega, h2⟩
      · rintro ⟨j, h1, h2⟩
        by_cases e2 : j = k
        · subst e2; exact absurd h2.symm e
        · exact ⟨j, by omega, h2⟩
/-- Few parts in all conditions. -/
def cntP (d : Nat) (l : PoL) : Prop := ∀ k, k < l.length → cntS d (poAt l k).wh.ps ≤ 2097152
set_option maxRecDepth 100000 in
set_option maxHeartbeats 8000000 in
theorem specPoliciesValid {d : Nat} {A : Option Addr} {l : PoL} {c : Nat} {w : World} (hU : poW d w A l) (hn : cntP d l) :
    Calls Try.prog 91 #[.slice A l.length c] w fun e w' => e = .returned (.bool (posOk l)) ∧ Below w.heap.size w w' := by
  have hlen := poW.len hU
  have HN0 := Lib.hid hn
  clear hn
  go_enter Try.func91, Try.ntmps91
  go_wp2
  go_loopw [3] (fun i wr => ∃ k : Nat, k ≤ l.length ∧ i = .int .i64 k ∧ Hid (∀ j, j < k → PoP l j) ∧ Below w.heap.size w wr) (fun i _ => l.length - (intOf i).toNat)
  case atStart => exact ⟨0, Nat.zero_le _, rfl, Lib.hid (fun j h => by omega), Below.refl _ _⟩
  case round =>
    obtain ⟨k, hk, rfl, HG, hB⟩ := hrel
    by_cases hlt : k < l.length
    · have hUr := poW.below hU hB
      obtain ⟨b, off, rfl, _, hc⟩ := poS.cells hUr (by omega)
      have HC : Hid (∀ (w' : World), Below wr.heap.size wr w' → ∀ k, k < l.length → w'.cell? ⟨b, off + k * 9, none⟩ = some (.string (poAt l k).nm)) := Lib.hid (fun w' hb k hk => by
        obtain ⟨_, _, _, _, h, _⟩ := hc k hk
        exact below_cell hb h)
      obtain ⟨A', c', hfd, hz, q0, q1, q2, q3, q4, q5, q6, q7, q8⟩ := hc k hlt
      have hfd2 : exW d wr A' (poAt l k).wh.ps := hfd
      have HW : Hid (∀ (w' : World), Below wr.heap.size wr w' → w'.cell? ⟨b, off + k * 9 + 2, none⟩ = some (.int .i64 (poAt l k).who)) := Lib.hid (fun w' hb => below_cell hb q2)
      have HCN := Lib.hid (HN0.out k hlt)
      clear hc hfd hUr
      have hW0 := Below.refl wr.heap.size wr
      cases g1 : poOk (poAt l k)
      · have HE : Hid (posOk l = false) := Lib.hid (pos_no hlt (fun h => by rw [h.1] at g1; cases g1))
        go_wp2_with fail
        refine (specPolicyValid hfd2 hz HCN.out).mono ?_
        rintro e w1 ⟨rfl, hb⟩
        rw [g1]
        replace hB := ext_trans hB hb
        clear hb q0 q1 q2 q3 q4 q5 q6 q7 q8
        go_wp2
        go_ret
        exact ⟨by rw [HE.out]; rfl, hB⟩
      · go_wp2_with fail
        refine (specPolicyValid hfd2 hz HCN.out).mono ?_
        rintro e w1 ⟨rfl, hb⟩
        rw [g1]
        have HB1 := Lib.hid hb
        replace hB := ext_trans hB hb
        clear hb q0 q1 q2 q3 q4 q5 q6 q7 q8 hfd2
        have qw := HW.out _ HB1.out
        by_cases g2 : (poAt l k).who = -2
        · have HE : Hid (posOk l = false) := Lib.hid (pos_no hlt (fun h => h.2.1 g2))
          have gb : ((poAt l k).who == -2) = true := by simpa using g2
          clear g2
          go_wp2
          go_ret
          exact ⟨by rw [HE.out]; rfl, hB⟩
        · have gb : ((poAt l k).who == -2) = false := by simpa using g2
          have H1 := Lib.hid g1
          have H2 := Lib.hid g2
          clear g1 g2
          go_wp2
          go_loopw [4] (fun i w3 => ∃ j : Nat, j ≤ k ∧ i = .int .i64 j ∧ Hid (∀ i, i < j → (poAt l i).nm ≠ (poAt l k).nm) ∧ Below w1.heap.size w1 w3) (fun i _ => k - (intOf i).toNat)
          case atStart => exact ⟨0, Nat.zero_le _, rfl, Lib.hid (fun j h => by omega), Below.refl _ _⟩
          case round =>
            clear gb qw
            obtain ⟨j, hj, rfl, HN, hD⟩ := hrel
            by_cases hjk : j < k
            · have m0 := cell_regrown (HC.out _ (ext_trans HB1.out hD) j (by omega))
              have z0 := cell_regrown (HC.out _ (ext_trans HB1.out hD) k hlt)
              by_cases g : (poAt l j).nm = (poAt l k).nm
              · have gb := strB_yes g
                have HE : Hid (posOk l = false) := Lib.hid (pos_no hlt (fun h => h.2.2 j hjk g))
                clear g
                go_wp2
                refine wp_region_quiet_below (by kernel_rfl) (by kernel_rfl) ?_
                repeat (go_big_quiet_step (fail))
                refine wpQuiet_nil ?_
                intro w4 hw'regrown
                replace hD := ext_trans hD (below_of_regrown hw'regrown (Nat.le_refl _))
                clear hw'regrown
                go_wp2
                go_ret
                exact ⟨by rw [HE.out]; rfl, ext_trans hB hD⟩
              · have gb := strB_no g
                have HN2 := Lib.hid (all_succ (p := fun i => (poAt l i).nm ≠ (poAt l k).nm) HN.out g)
                clear g
                go_wp2
                refine wp_region_quiet_below (by kernel_rfl) (by kernel_rfl) ?_
                repeat (go_big_quiet_step (fail))
                refine wpQuiet_nil ?_
                intro w4 hw'regrown
                replace hD := ext_trans hD (below_of_regrown hw'regrown (Nat.le_refl _))
                clear hw'regrown
                go_wp2
                go_roundw
                case rel => exact ⟨j + 1, by omega, by go_num, HN2, hD⟩
                case measure => simp [intOf]; omega
            · obtain rfl : j = k := by omega
              go_wp2
              go_roundw
              case rel => exact ⟨j + 1, by omega, by go_num, Lib.hid (all_succ (p := PoP l) HG.out ⟨H1.out, H2.out, HN.out⟩), ext_trans hB hD⟩
              case measure => simp [intOf]; omega
    · obtain rfl : k = l.length := by omega
      by_cases g : l.length ≤ 6
      · have HE : Hid (posOk l = true) := Lib.hid (cD_yes ⟨HG.out, g⟩)
        go_wp2
        go_ret
        exact ⟨ret_bool (by rw [HE.out]; simp; omega), hB⟩
      · have HE : Hid (posOk l = false) := Lib.hid (cD_no (fun h => g h.2))
        go_wp2
        go_ret
        exact ⟨ret_bool (by rw [HE.out]; simp; omega), hB⟩
set_option maxRecDepth 100000 in
set_option maxHeartbeats 8000000 in
theorem implPoliciesValid {d n : Nat} {A : Option Addr} {l : PoL} {c : Nat} {w : World} (hnl : n = l.length) (hU : poW d w A l) :
    Calls Try.prog 92 #[.slice A n c] w fun e w' => e = .returned (.bool (posOk l)) ∧ Below w.heap.size w w' := by
  subst hnl
  have hmm := @run_makeMap Try.prog
  have hlen := poW.len hU
  have hM0 := MapS.made w
  obtain ⟨bm, hbm⟩ : ∃ b, b = w.heap.size := ⟨_, rfl⟩
  rw [← hbm] at hM0
  have hWb : w.heap.size ≤ bm := by omega
  have HM0 := Lib.hid hM0
  have HB := Lib.hid hbm
  clear hbm hM0
  go_enter Try.func92, Try.ntmps92
  go_wp2_with fail
  rw [← HB.out]
  go_loopw [9] (fun i wr => ∃ k : Nat, k ≤ l.length ∧ i = .int .i64 k ∧ MapS wr bm k (seenP l k) ∧ Hid (∀ j, j < k → PoP l j) ∧ Below w.heap.size w wr) (fun i _ => l.length - (intOf i).toNat)
  case atStart => exact ⟨0, Nat.zero_le _, rfl, HM0.out, Lib.hid (fun j h => by omega), below_alloc _ _⟩
  case round =>
    clear HM0 HB
    obtain ⟨k, hk, rfl, hM, HG, hB⟩ := hrel
    by_cases hlt : k < l.length
    · have hUr := poW.below hU hB
      obtain ⟨b, off, rfl, _, hc⟩ := poS.cells hUr (by omega)
      obtain ⟨A', c', hfd, hz, q0, q1, q2, q3, q4, q5, q6, q7, q8⟩ := hc k hlt
      have hfd2 : exW d wr A' (poAt l k).wh.ps := hfd
      have hszm : (poAt l k).nm.size ≤ maxLen := hz.2
      have HZ := Lib.hid hz
      have HSF : Hid (∀ z, (if z = (poAt l k).nm then true else seenP l k z) = seenP l (k + 1) z) := Lib.hid (fun _ => rfl)
      clear hc hfd hUr
      have hbl := below_alloc wr (.cells #[.string (poAt l k).nm, .bool (poAt l k).al, .int .i64 (poAt l k).who, .int .i64 (poAt l k).what, .int .i64 (poAt l k).acts, .int .i64 (poAt l k).wh.k, .int .i64 (poAt l k).wh.n, .string (poAt l k).wh.s, .slice A' (poAt l k).wh.ps.length c'] 30)
      obtain ⟨X, hX⟩ : ∃ X, X = wr.alloc (.cells #[.string (poAt l k).nm, .bool (poAt l k).al, .int .i64 (poAt l k).who, .int .i64 (poAt l k).what, .int .i64 (poAt l k).acts, .int .i64 (poAt l k).wh.k, .int .i64 (poAt l k).wh.n, .string (poAt l k).wh.s, .slice A' (poAt l k).wh.ps.length c'] 30) := ⟨_, rfl⟩
      obtain ⟨g, hg⟩ : ∃ g, g = wr.heap.size := ⟨_, rfl⟩
      have hq : X.heap[g]? = some (.cells #[.string (poAt l k).nm, .bool (poAt l k).al, .int .i64 (poAt l k).who, .int .i64 (poAt l k).what, .int .i64 (poAt l k).acts, .int .i64 (poAt l k).wh.k, .int .i64 (poAt l k).wh.n, .string (poAt l k).wh.s, .slice A' (poAt l k).wh.ps.length c'] 30 (0, 0)) := by rw [hX, hg]; exact heap_alloc_new _ _
      rw [← hX] at hbl
      replace hB := ext_trans hB hbl
      replace hfd2 := hfd2.below hbl
      replace hM := hM.below hbl
      have HX := Lib.hid hX
      have HGG := Lib.hid hg
      have HQ := Lib.hid hq
      obtain ⟨y0, y1, y2, y3, y4, y5, y6, y7, y8⟩ := cells9 (heap_alloc_new wr (.cells #[.string (poAt l k).nm, .bool (poAt l k).al, .int .i64 (poAt l k).who, .int .i64 (poAt l k).what, .int .i64 (poAt l k).acts, .int .i64 (poAt l k).wh.k, .int .i64 (poAt l k).wh.n, .string (poAt l k).wh.s, .slice A' (poAt l k).wh.ps.length c'] 30))
      clear hX hg hbl hq
      go_wp2_with fail
      rw [← HX.out, ← HGG.out]
      clear q0 q1 q2 q3 q4 q5 q6 q7 q8 y0 y1 y2 y3 y4 y5 y6 y7 y8
      refine (implPolicyValid hfd2 hz).mono ?_
      rintro e w1 ⟨rfl, hb⟩
      replace hB := ext_trans hB hb
      replace hM := hM.below hb
      have HQ := Lib.hid (block_in HQ.out hb)
      obtain ⟨y0, y1, y2, y3, y4, y5, y6, y7, y8⟩ := cells9 HQ.out
      clear hb hfd2
      cases g1 : poOk (poAt l k)
      · have HE : Hid (posOk l = false) := Lib.hid (pos_no hlt (fun h => by rw [h.1] at g1; cases g1))
        go_wp2
        go_ret
        exact ⟨by rw [HE.out]; rfl, hB⟩
      · by_cases g2 : (poAt l k).who = -2
        · have HE : Hid (posOk l = false) := Lib.hid (pos_no hlt (fun h => h.2.1 g2))
          have gb : ((poAt l k).who == -2) = true := by simpa using g2
          clear g2
          go_wp2
          go_ret
          exact ⟨by rw [HE.out]; rfl, hB⟩
        · have gb : ((poAt l k).who == -2) = false := by simpa using g2
          have H1 := Lib.hid g1
          have H2 := Lib.hid g2
          clear g1 g2
          have hlook := hM.look hszm
          cases g3 : seenP l k (poAt l k).nm
          · rw [g3] at hlook
            have HP2 : Hid (∀ j, j < k + 1 → PoP l j) := Lib.hid (all_succ (p := PoP l) HG.out ⟨H1.out, H2.out, fun j hj e => by rw [(seenP_iff l k _).2 ⟨j, hj, e⟩] at g3; cases g3⟩)
            go_wp2_with (at_mapUpdate; go_must (refine wpList_put_mapS rfl (.tmp 27) (.tmp 29) (.const (.bool true)) rfl hM rfl rfl rfl hszm (by omega) ?_); intro w4 hM4 hg4)
            have hC4 := ext_grown hB hg4 (fun k e => by cases e; exact hWb)
            clear hg4
            replace hM4 := hM4.ext HSF.out
            go_roundw
            case rel => exact ⟨k + 1, by omega, by go_num, hM4, HP2, hC4⟩
            case measure => simp [intOf]; omega
          · rw [g3] at hlook
            have HE : Hid (posOk l = false) := Lib.hid (pos_no hlt (fun h => by
              obtain ⟨j, hj, e⟩ := (seenP_iff l k _).1 g3
              exact h.2.2 j hj e))
            go_wp2
            go_ret
            exact ⟨by rw [HE.out]; rfl, hB⟩
    · obtain rfl : k = l.length := by omega
      by_cases g : l.length ≤ 6
      · have HE : Hid (posOk l = true) := Lib.hid (cD_yes ⟨HG.out, g⟩)
        go_wp2
        go_ret
        exact ⟨ret_bool (by rw [HE.out]; simp; omega), hB⟩
      · have HE : Hid (posOk l = false) := Lib.hid (cD_no (fun h => g h.2))
        go_wp2
        go_ret
        exact ⟨ret_bool (by rw [HE.out]; simp; omega), hB⟩
end Go.Proofs.Ytodjokdaofefdaa
/- Policies that are all safe: by both. -/
namespace Go.Proofs.Ytodjokdaofefdaa
set_option linter.unusedSimpArgs false
set_option linter.unusedVariables false
open Go.RowKit

theorem saf_no {d : Nat} {s : Sc} {many : Int} {l : PoL} (h : ¬ SafP d s many l) : safOk d s many l = false := cD_no h
set_option maxRecDepth 100000 in
set_option maxHeartbeats 8000000 in
theorem specSafePolicies {d : Nat} {s : Sc} {A0 A1 : Option Addr} {c0 c1 : Nat} {many : Int} {A : Option Addr} {l : PoL} {c : Nat} {w : World} (hS : scR w A0 A1 s) (hz : scZ s) (hU : poW d w A l) (hn : cntP d l) :
    Calls Try.prog 40 #[scV s A0 c0 A1 c1, .int .i64 many, .slice A l.length c] w fun e w' => e = .returned (.bool (safOk d s many l)) ∧ Below w.heap.size w w' := by
  unfold scV
  have hlen := poW.len hU
  have HZ := Lib.hid hz
  have HN0 := Lib.hid hn
  clear hz hn
  obtain ⟨W, hW⟩ : ∃ W, W = w.alloc (.cells #[.slice A0 s.1.length c0, .slice A1 s.2.length c1] 25) := ⟨_, rfl⟩
  obtain ⟨g, hg⟩ : ∃ g, g = w.heap.size := ⟨_, rfl⟩
  have hB0 : Below w.heap.size w W := by rw [hW]; exact below_alloc _ _
  have hq : W.heap[g]? = some (.cells #[.slice A0 s.1.length c0, .slice A1 s.2.length c1] 25 (0, 0)) := by rw [hW, hg]; exact heap_alloc_new _ _
  replace hU := poW.below hU hB0
  replace hS := hS.below hB0
  have HQ := Lib.hid hq
  have HW := Lib.hid hW
  have HG := Lib.hid hg
  clear hW hg hq
  go_enter Try.func40, Try.ntmps40
  go_wp2_with fail
  rw [← HW.out, ← HG.out]
  go_loopw [7] (fun i wr => ∃ k : Nat, k ≤ l.length ∧ i = .int .i64 k ∧ Hid (∀ j, j < k → ckX d s many (poAt l j) = 0) ∧ Below W.heap.size W wr) (fun i _ => l.length - (intOf i).toNat)
  case atStart => exact ⟨0, Nat.zero_le _, rfl, Lib.hid (fun j h => by omega), Below.refl _ _⟩
  case round =>
    obtain ⟨k, hk, rfl, HGD, hB⟩ := hrel
    have hUr := poW.below hU hB
    have hSr := hS.below hB
    obtain ⟨z0, z1⟩ := cells2 (block_in HQ.out hB)
    by_cases hlt : k < l.length
    · obtain ⟨b, off, rfl, _, hc⟩ := poS.cells hUr (by omega)
      obtain ⟨A', c', hfd, hp, q0, q1, q2, q3, q4, q5, q6, q7, q8⟩ := hc k hlt
      have hfd2 : exW d wr A' (poAt l k).wh.ps := hfd
      have HCN := Lib.hid (HN0.out k hlt)
      obtain ⟨x, hx⟩ : ∃ x, ckX d s many (poAt l k) = x := ⟨_, rfl⟩
      have HX := Lib.hid hx
      have HC : Hid (∀ (m : Nat) (os : Array Obj), Calls Try.prog 13 #[.agg #[.slice A0 s.1.length c0, .slice A1 s.2.length c1], .int .i64 many, .agg #[.string (poAt l k).nm, .bool (poAt l k).al, .int .i64 (poAt l k).who, .int .i64 (poAt l k).what, .int .i64 (poAt l k).acts, .int .i64 (poAt l k).wh.k, .int .i64 (poAt l k).wh.n, .string (poAt l k).wh.s, .slice A' (poAt l k).wh.ps.length c']] (Sort.grow (redrawn wr m) os) fun e w' => e = .returned (.int .i64 x) ∧ Below _ _ w') := Lib.hid (fun m os => hx ▸ specCheckPolicy (hSr.below (below_regrown wr m os)) HZ.out (hfd2.below (below_regrown wr m os)) hp HCN.out)
      have r0 := cell_regrown q0
      have r1 := cell_regrown q1
      have r2 := cell_regrown q2
      have r3 := cell_regrown q3
      have r4 := cell_regrown q4
      have r5 := cell_regrown q5
      have r6 := cell_regrown q6
      have r7 := cell_regrown q7
      have r8 := cell_regrown q8
      have rz0 := cell_regrown z0
      have rz1 := cell_regrown z1
      clear q0 q1 q2 q3 q4 q5 q6 q7 q8 z0 z1
      clear hc hfd hfd2 hx hUr hSr
      by_cases gx : x = 0
      · have gb : (x != 0) = false := by simpa using gx
        have HGD2 := Lib.hid (all_succ (p := fun j => ckX d s many (poAt l j) = 0) HGD.out (HX.out.trans gx))
        clear gx
        go_wp2
        refine wp_region_quiet_below (by kernel_rfl) (by kernel_rfl) ?_
        repeat (go_big_quiet_step ((go_at_call 13; (with_reducible exact Calls.regrown_of (HC.out _ _)))))
        refine wpQuiet_nil ?_
        intro w4 hw'regrown
        replace hB := ext_trans hB (below_of_regrown hw'regrown (Nat.le_refl _))
        clear hw'regrown r0 r1 r2 r3 r4 r5 r6 r7 r8 rz0 rz1
        go_wp2
        go_roundw
        case rel => exact ⟨k + 1, by omega, by go_num, HGD2, hB⟩
        case measure => simp [intOf]; omega
      · have gb : (x != 0) = true := by simpa using gx
        have HE : Hid (safOk d s many l = false) := Lib.hid (saf_no (fun h => gx (HX.out.symm.trans (h.2.2.2 k hlt))))
        clear gx
        go_wp2
        refine wp_region_quiet_below (by kernel_rfl) (by kernel_rfl) ?_
        repeat (go_big_quiet_step ((go_at_call 13; (with_reducible exact Calls.regrown_of (HC.out _ _)))))
        refine wpQuiet_nil ?_
        intro w4 hw'regrown
        replace hB := ext_trans hB (below_of_regrown hw'regrown (Nat.le_refl _))
        clear hw'regrown r0 r1 r2 r3 r4 r5 r6 r7 r8 rz0 rz1
        go_wp2
        go_ret
        exact ⟨by rw [HE.out]; rfl, hB0.trans (hB.mono hB0.size)⟩
    · obtain rfl : k = l.length := by omega
      have HF : Hid (safOk d s many l = (posOk l && (scOk s && inB many 0 7))) := Lib.hid (by
        rw [Bool.eq_iff_iff]
        simp only [Bool.and_eq_true, safOk, posOk, cD_true]
        exact ⟨fun h => ⟨h.2.2.1, h.1, h.2.1⟩, fun h => ⟨h.2.1, h.2.2, h.1, HGD.out⟩⟩)
      go_wp2_with fail
      refine (specPoliciesValid hUr HN0.out).mono ?_
      rintro e w1 ⟨rfl, hb⟩
      replace hB := ext_trans hB hb
      replace hSr := hSr.below hb
      clear z0 z1
      obtain ⟨z0, z1⟩ := cells2 (block_in HQ.out hB)
      clear hb
      cases g1 : posOk l
      · rw [g1] at HF
        go_wp2
        go_ret
        exact ⟨by rw [HF.out]; rfl, hB0.trans (hB.mono hB0.size)⟩
      · rw [g1] at HF
        go_wp2_with fail
        refine (specSchemaValid hSr HZ.out.1 HZ.out.2).mono ?_
        rintro e w2 ⟨rfl, hb⟩
        replace hB := ext_trans hB hb
        clear hb z0 z1
        cases g2 : scOk s
        · rw [g2] at HF
          go_wp2
          go_ret
          exact ⟨by rw [HF.out]; rfl, hB0.trans (hB.mono hB0.size)⟩
        · rw [g2] at HF
          go_wp2_with fail
          refine (l1In_any _ _ _ _).mono ?_
          rintro e w3 ⟨rfl, hb⟩
          replace hB := ext_trans hB hb
          clear hb
          cases g3 : inB many 0 7
          all_goals
            rw [g3] at HF
            go_wp2
            go_ret
            exact ⟨by rw [HF.out]; rfl, hB0.trans (hB.mono hB0.size)⟩
set_option maxRecDepth 100000 in
set_option maxHeartbeats 8000000 in
theorem implSafePolicies {d n : Nat} {s : Sc} {A0 A1 : Option Addr} {c0 c1 : Nat} {many : Int} {A : Option Addr} {l : PoL} {c : Nat} {w : World} (hnl : n = l.length) (hS : scR w A0 A1 s) (hz : scZ s) (hc0 : s.1.length ≤ c0) (hc1 : s.2.length ≤ c1) (hU : poW d w A l) :
    Calls Try.prog 42 #[scV s A0 c0 A1 c1, .int .i64 many, .slice A n c] w fun e w' => e = .returned (.bool (safOk d s many l)) ∧ Below w.heap.size w w' := by
  subst hnl
  unfold scV
  have hlen := poW.len hU
  obtain ⟨W, hW⟩ : ∃ W, W = w.alloc (.cells #[.slice A0 s.1.length c0, .slice A1 s.2.length c1] 25) := ⟨_, rfl⟩
  obtain ⟨g, hg⟩ : ∃ g, g = w.heap.size := ⟨_, rfl⟩
  have hB0 : Below w.heap.size w W := by rw [hW]; exact below_alloc _ _
  have hq : W.heap[g]? = some (.cells #[.slice A0 s.1.length c0, .slice A1 s.2.length c1] 25 (0, 0)) := by rw [hW, hg]; exact heap_alloc_new _ _
  replace hU := poW.below hU hB0
  replace hS := hS.below hB0
  have HQ := Lib.hid hq
  have HW := Lib.hid hW
  have HG := Lib.hid hg
  clear hW hg hq
  obtain ⟨z0, z1⟩ := cells2 HQ.out
  go_enter Try.func42, Try.ntmps42
  go_wp2_with fail
  rw [← HW.out, ← HG.out]
  refine (implSchemaValid hS hz.1 hz.2 hc0 hc1).mono ?_
  rintro e w1 ⟨rfl, hb⟩
  have hB := hb
  clear hb z0 z1
  cases g1 : scOk s
  · have HE : Hid (safOk d s many l = false) := Lib.hid (saf_no (fun h => by rw [h.1] at g1; cases g1))
    go_wp2
    go_ret
    exact ⟨by rw [HE.out]; rfl, hB0.trans (hB.mono hB0.size)⟩
  · go_wp2_with fail
    refine (in_any _ _ _ _).mono ?_
    rintro e w2 ⟨rfl, hb⟩
    replace hB := ext_trans hB hb
    clear hb
    cases g2 : inB many 0 7
    · have HE : Hid (safOk d s many l = false) := Lib.hid (saf_no (fun h => by rw [h.2.1] at g2; cases g2))
      go_wp2
      go_ret
      exact ⟨by rw [HE.out]; rfl, hB0.trans (hB.mono hB0.size)⟩
    · have hU2 := poW.below hU hB
      go_wp2_with fail
      refine (implPoliciesValid rfl hU2).mono ?_
      rintro e w3 ⟨rfl, hb⟩
      replace hB := ext_trans hB hb
      clear hb hU2
      cases g3 : posOk l
      · have HE : Hid (safOk d s many l = false) := Lib.hid (saf_no (fun h => by rw [posOk, cD_false] at g3; exact g3 h.2.2.1))
        go_wp2
        go_ret
        exact ⟨by rw [HE.out]; rfl, hB0.trans (hB.mono hB0.size)⟩
      · have HOK : Hid ((∀ k, k < l.length → ckX d s many (poAt l k) = 0) → safOk d s many l = true) := Lib.hid (fun h => cD_yes ⟨g1, g2, cD_true.1 g3, h⟩)
        clear g1 g2 g3
        go_wp2
        go_loopw [24] (fun i wr => ∃ k : Nat, k ≤ l.length ∧ i = .int .i64 k ∧ Hid (∀ j, j < k → ckX d s many (poAt l j) = 0) ∧ Below W.heap.size W wr) (fun i _ => l.length - (intOf i).toNat)
        case atStart => exact ⟨0, Nat.zero_le _, rfl, Lib.hid (fun j h => by omega), hB⟩
        case round =>
          clear hB
          obtain ⟨k, hk, rfl, HGD, hB⟩ := hrel
          have hUr := poW.below hU hB
          by_cases hlt : k < l.length
          · obtain ⟨b, off, rfl, _, hc⟩ := poS.cells hUr (by omega)
            obtain ⟨A', c', hfd, hp, q0, q1, q2, q3, q4, q5, q6, q7, q8⟩ := hc k hlt
            have hbl := below_alloc wr (.cells #[.string (poAt l k).nm, .bool (poAt l k).al, .int .i64 (poAt l k).who, .int .i64 (poAt l k).what, .int .i64 (poAt l k).acts, .int .i64 (poAt l k).wh.k, .int .i64 (poAt l k).wh.n, .string (poAt l k).wh.s, .slice A' (poAt l k).wh.ps.length c'] 30)
            have hfd2 : exW d (wr.alloc (.cells #[.string (poAt l k).nm, .bool (poAt l k).al, .int .i64 (poAt l k).who, .int .i64 (poAt l k).what, .int .i64 (poAt l k).acts, .int .i64 (poAt l k).wh.k, .int .i64 (poAt l k).wh.n, .string (poAt l k).wh.s, .slice A' (poAt l k).wh.ps.length c'] 30)) A' (poAt l k).wh.ps := exW.below hfd hbl
            have hSr := hS.below (ext_trans hB hbl)
            have hBx := ext_trans hB hbl
            obtain ⟨z0, z1⟩ := cells2 (block_in HQ.out hBx)
            obtain ⟨x, hx⟩ : ∃ x, ckX d s many (poAt l k) = x := ⟨_, rfl⟩
            have HX := Lib.hid hx
            have HC := Lib.hid (implCheckPolicy (many := many) (c := c') hSr hz hc0 hc1 hfd2 hp)
            rw [hx] at HC
            obtain ⟨y0, y1, y2, y3, y4, y5, y6, y7, y8⟩ := cells9 (heap_alloc_new wr (.cells #[.string (poAt l k).nm, .bool (poAt l k).al, .int .i64 (poAt l k).who, .int .i64 (poAt l k).what, .int .i64 (poAt l k).acts, .int .i64 (poAt l k).wh.k, .int .i64 (poAt l k).wh.n, .string (poAt l k).wh.s, .slice A' (poAt l k).wh.ps.length c'] 30))
            clear hc hfd hfd2 hx hUr hSr hbl
            by_cases gx : x = 0
            · have gb : (x != 0) = false := by simpa using gx
              have HGD2 := Lib.hid (all_succ (p := fun j => ckX d s many (poAt l j) = 0) HGD.out (HX.out.trans gx))
              clear gx
              go_wp2_with fail
              refine HC.out.mono ?_
              rintro e w4 ⟨rfl, hb⟩
              have hB4 := ext_trans hBx hb
              clear hb q0 q1 q2 q3 q4 q5 q6 q7 q8 y0 y1 y2 y3 y4 y5 y6 y7 y8 z0 z1 hB hBx
              go_wp2
              go_roundw
              case rel => exact ⟨k + 1, by omega, by go_num, HGD2, hB4⟩
              case measure => simp [intOf]; omega
            · have gb : (x != 0) = true := by simpa using gx
              have HE : Hid (safOk d s many l = false) := Lib.hid (saf_no (fun h => gx (HX.out.symm.trans (h.2.2.2 k hlt))))
              clear gx
              go_wp2_with fail
              refine HC.out.mono ?_
              rintro e w4 ⟨rfl, hb⟩
              have hB4 := ext_trans hBx hb
              clear hb q0 q1 q2 q3 q4 q5 q6 q7 q8 y0 y1 y2 y3 y4 y5 y6 y7 y8 z0 z1 hB hBx
              go_wp2
              go_ret
              exact ⟨by rw [HE.out]; rfl, hB0.trans (hB4.mono hB0.size)⟩
          · obtain rfl : k = l.length := by omega
            have HE := Lib.hid (HOK.out HGD.out)
            go_wp2
            go_ret
            exact ⟨by rw [HE.out]; rfl, hB0.trans (hB.mono hB0.size)⟩
end Go.Proofs.Ytodjokdaofefdaa
/- Policies: sizes, conversions, comparison. -/
namespace Go.Proofs.Ytodjokdaofefdaa
set_option linter.unusedSimpArgs false
set_option linter.unusedVariables false
open Go.RowKit

set_option maxHeartbeats 1000000 in
theorem szPolicy_any {d : Nat} {p : Po} {A : Option Addr} {c : Nat} {left : Int} {w : World} (hU : exW d w A p.wh.ps) (hz : poZ p) (h0 : 0 ≤ left) (h1 : left ≤ 1048576) :
    Calls Try.prog 34 #[poV p A c, .int .i64 left] w (SzPst left (cntS d p.wh.ps) (fewS d p.wh.ps) w) := by
  unfold poV
  obtain ⟨z1, z2⟩ := hz
  have hl := exS.len hU
  by_cases h : left < p.nm.size
  · go_enter Try.func34, Try.ntmps34
    go_wp2
    go_ret
    exact ⟨-1, rfl, .inl rfl, below_alloc _ _⟩
  · go_enter Try.func34, Try.ntmps34
    go_wp2_with fail
    refine (szExpr_any (hU.below (by (repeat (first | exact Below.refl _ _ | refine ext_alloc ?_ _ | refine Below.setCell ?_ (by simp) _)))) z1 (by omega) (by omega)).mono ?_
    rintro e w1 ⟨y, rfl, hy, hb⟩
    have hB := ext_trans (show Below w.heap.size w _ by (repeat (first | exact Below.refl _ _ | refine ext_alloc ?_ _ | refine Below.setCell ?_ (by simp) _))) hb
    clear hb
    rcases hy with rfl | ⟨y0, y1, y2⟩
    · go_wp2
      go_ret
      exact ⟨-1, rfl, .inl rfl, hB⟩
    · go_wp2
      go_ret
      exact ⟨y, rfl, .inr ⟨y0, by omega, y2⟩, hB⟩
set_option maxRecDepth 100000 in
set_option maxHeartbeats 2000000 in
theorem toPolicy_any {d : Nat} {p : Po} {A : Option Addr} {c : Nat} {w : World} (hU : exW d w A p.wh.ps) (hf : fewS d p.wh.ps) :
    Calls Try.prog 36 #[poV p A c] w fun e w' => ∃ A' c', e = .returned (poV p A' c') ∧ exS d w.heap.size w'.heap.size w' A' p.wh.ps ∧ Below w.heap.size w w' := by
  unfold poV
  have HF := Lib.hid hf
  clear hf
  go_enter Try.func36, Try.ntmps36
  go_wp2_with fail
  refine (toExpr_any (hU.below (by (repeat (first | exact Below.refl _ _ | refine ext_alloc ?_ _ | refine Below.setCell ?_ (by simp) _)))) HF.out).mono ?_
  rintro e w1 ⟨A', c', rfl, ho, hb⟩
  obtain ⟨hc, hf⟩ := bcell hb
  have hz := hb.size
  simp only [World.size_alloc, World.size_setCell] at hz ho ⊢
  go_wp2
  refine bodyPost_ret (v := .agg #[.string p.nm, .bool p.al, .int .i64 p.who, .int .i64 p.what, .int .i64 p.acts, .int .i64 p.wh.k, .int .i64 p.wh.n, .string p.wh.s, .slice A' p.wh.ps.length c']) (by simp [results, go_sem, hc]) rfl ⟨_, _, rfl, ?_, ?_⟩
  · have hlo : exS d (w.heap.size + 1 + 1 + 1) w1.heap.size w1 A' p.wh.ps := ho
    refine exS.wide (lo := w.heap.size + 1 + 1 + 1) (hi := w1.heap.size) ?_ (by omega) (by simp)
    repeat (first | (with_reducible exact hlo) | (refine exS.setCell ?_ (by dsimp only; omega)))
  · have hb2 : Below w.heap.size w w1 := by
      refine Below.trans ?_ (hb.mono (by (try simp) <;> omega))
      repeat (first | exact Below.refl _ _ | refine ext_alloc ?_ _ | refine Below.setCell ?_ (by simp) _)
    repeat (first | (with_reducible exact hb2) | with_reducible refine Below.setCell ?_ (by (try simp) <;> omega) _)
theorem po_sameX (r r' : Po) : sameX r r' = (!(!(r.nm.toList == r'.nm.toList)) && (!(!(r.al == r'.al)) && (!(r.who != r'.who) && (!(r.what != r'.what) && (!(r.acts != r'.acts) && !(!sameX r.wh r'.wh)))))) := by
  rw [Bool.eq_iff_iff]
  simp only [sameX_true, Bool.and_eq_true, Bool.not_not, Bool.not_eq_true', bne_eq_false_iff_eq]
  constructor
  · rintro rfl; simp
  · rintro ⟨h0, h1, h2, h3, h4, h5⟩
    exact Po.same (by first | exact h0 | simpa using h0 | exact str_eq.1 (by simpa using h0)) (by simpa using h1) h2 h3 h4 h5
set_option maxRecDepth 100000 in
set_option maxHeartbeats 4000000 in
theorem eqPolicy_any {d : Nat} {p p' : Po} {A A' : Option Addr} {c c' : Nat} {w : World} (hU : exW d w A p.wh.ps) (hV : exW d w A' p'.wh.ps) :
    Calls Try.prog 38 #[poV p A c, poV p' A' c'] w fun e w' => e = .returned (.bool (sameX p p')) ∧ Below w.heap.size w w' := by
  unfold poV
  have hl := exS.len hU
  have hl' := exS.len hV
  go_enter Try.func38, Try.ntmps38
  go_wp2_with (go_at_call 23; refine (eqExpr_any (hU.below (by (repeat (first | exact Below.refl _ _ | refine ext_alloc ?_ _ | refine Below.setCell ?_ (by simp) _)))) (hV.below (by (repeat (first | exact Below.refl _ _ | refine ext_alloc ?_ _ | refine Below.setCell ?_ (by simp) _))))).mono ?_; rintro e w1 ⟨rfl, hb⟩; obtain ⟨hc1, hf1⟩ := bcell hb; have hz1 := hb.size; simp at hz1)
  all_goals
    go_ret
    refine ⟨ret_bool ?_, ?_⟩
    · rw [po_sameX]
      simp only [*, Bool.not_true, Bool.not_false, Bool.false_and, Bool.and_false, Bool.true_and, Bool.and_self]
    · first
        | ((repeat (first | exact Below.refl _ _ | refine ext_alloc ?_ _)); done)
        | (refine ext_trans ?_ ‹Below _ _ _›; (repeat (first | exact Below.refl _ _ | refine ext_alloc ?_ _)); done)
end Go.Proofs.Ytodjokdaofefdaa
/- Names with kinds: conversions, comparison and size, one at a time. -/
namespace Go.Proofs.Ytodjokdaofefdaa
set_option linter.unusedSimpArgs false
set_option linter.unusedVariables false
open Go.RowKit

set_option maxHeartbeats 400000 in
theorem toKinded_any (x0 : ByteArray) (x1 : Int) (w : World) :
    Calls Try.prog 130 #[.agg #[.string x0, .int .i64 x1]] w fun e w' => e = .returned (.agg #[.string x0, .int .i64 x1]) ∧ Below w.heap.size w w' := by
  go_enter Try.func130, Try.ntmps130
  go_wp2
  refine bodyPost_ret (v := .agg #[.string x0, .int .i64 x1]) (by simp [results, go_sem]) rfl ⟨rfl, ?_⟩
  repeat (first | exact Below.refl _ _ | refine ext_alloc ?_ _)
set_option maxHeartbeats 400000 in
theorem eqKinded_any (x0 : ByteArray) (x1 : Int) (y0 : ByteArray) (y1 : Int) (w : World) :
    Calls Try.prog 131 #[.agg #[.string x0, .int .i64 x1], .agg #[.string y0, .int .i64 y1]] w fun e w' => e = .returned (.bool (sameB (x0, x1) (y0, y1))) ∧ Below w.heap.size w w' := by
  go_enter Try.func131, Try.ntmps131
  go_wp2
  all_goals
    go_ret
    refine ⟨ret_bool ?_, ?_⟩
    · simp_all [sameB, str_beq]
    · repeat (first | exact Below.refl _ _ | refine ext_alloc ?_ _)
end Go.Proofs.Ytodjokdaofefdaa
