/- Expressions: sizes, copies for a call. -/
import Derived.Test.YtodjokdaofefdaaExB
namespace Go.Proofs.Ytodjokdaofefdaa
set_option linter.unusedSimpArgs false
set_option linter.unusedVariables false
open Go.RowKit

/-- Few parts everywhere. -/
def fewR : Nat → Ex → Prop
  | 0, _ => False
  | d + 1, t => t.ps.length ≤ 1048576 ∧ ∀ k, k < t.ps.length → fewR d (exAt t.ps k)
def fewS (d : Nat) (l : ExL) : Prop := l.length ≤ 1048576 ∧ ∀ k, k < l.length → fewR d (exAt l k)
/-- How many parts, parts of parts, and so on. -/
def cntR : Nat → Ex → Nat
  | 0, _ => 0
  | d + 1, t => t.ps.length + (t.ps.map (cntR d)).sum
def cntS (d : Nat) (l : ExL) : Nat := l.length + (l.map (cntR d)).sum
theorem cnt_take {d : Nat} {l : ExL} {k : Nat} (hk : k < l.length) : ((l.take (k + 1)).map (cntR d)).sum = ((l.take k).map (cntR d)).sum + cntR d (exAt l k) := by
  rw [List.take_succ_eq_append_getElem hk, List.map_append, List.sum_append, exAt_eq hk]; simp
def SzPst (left : Int) (n : Nat) (p : Prop) (w : World) (e : Ending) (w' : World) : Prop := ∃ x : Int, e = .returned (.int .i64 x) ∧ (x = -1 ∨ (0 ≤ x ∧ x + n ≤ left ∧ p)) ∧ Below w.heap.size w w'
def SzQ (d : Nat) : Prop := ∀ (A : Option Addr) (r : Ex) (c : Nat) (left : Int) (w : World), exW d w A r.ps → r.s.size ≤ 9223372036854775807 → 0 ≤ left → left ≤ 1048576 →
  Calls Try.prog 20 #[.agg #[.int .i64 r.k, .int .i64 r.n, .string r.s, .slice A r.ps.length c], .int .i64 left] w (SzPst left (cntS d r.ps) (fewS d r.ps) w)
def SzP (d : Nat) : Prop := ∀ (A : Option Addr) (l : ExL) (c : Nat) (left : Int) (w : World), exW d w A l → 0 ≤ left → left ≤ 1048576 →
  Calls Try.prog 71 #[.slice A l.length c, .int .i64 left] w (SzPst left (cntS d l) (fewS d l) w)
set_option maxRecDepth 100000 in
set_option maxHeartbeats 2000000 in
theorem szQ_of {d : Nat} (hP : SzP d) : SzQ d := by
  intro A r c left w hU hs h0 h1
  have HP := Lib.hid hP
  clear hP
  have hl := exS.len hU
  have hB := below_alloc w (.cells #[.int .i64 r.k, .int .i64 r.n, .string r.s, .slice A r.ps.length c] 48)
  obtain ⟨ln, hln⟩ : ∃ n : Nat, n = r.s.size := ⟨_, rfl⟩
  by_cases hlt : left < r.s.size
  · go_enter Try.func20, Try.ntmps20
    go_wp2
    go_ret
    exact ⟨-1, rfl, .inl rfl, hB⟩
  · go_enter Try.func20, Try.ntmps20
    go_wp2_with fail
    refine (HP.out _ _ _ (left - r.s.size) _ (hU.below hB) (by omega) (by omega)).mono ?_
    rintro e w1 ⟨x, rfl, hx, hb⟩
    replace hB := ext_trans hB hb
    rcases hx with rfl | ⟨x0, x1, hp⟩
    · go_wp2
      go_ret
      exact ⟨-1, rfl, .inl rfl, hB⟩
    · have HF := Lib.hid hp
      clear hp
      go_wp2
      go_ret
      exact ⟨x, rfl, .inr ⟨x0, by omega, HF.out⟩, hB⟩
set_option maxRecDepth 100000 in
set_option maxHeartbeats 2000000 in
theorem szP_of {d : Nat} (hQ : ∀ m, d = m + 1 → SzQ m) : SzP d := by
  intro A l c left w hU h0 h1
  have HQ := Lib.hid hQ
  clear hQ
  have hlen := exS.len hU
  by_cases h : left < l.length
  · go_enter Try.func71, Try.ntmps71
    go_wp2
    go_ret
    exact ⟨-1, rfl, .inl rfl, Below.refl _ _⟩
  · go_enter Try.func71, Try.ntmps71
    go_wp2
    go_loopw [1, 5] (fun xv iv wr => ∃ (k : Nat) (x : Int), k ≤ l.length ∧ iv = .int .i64 k ∧ xv = .int .i64 x ∧ (0 ≤ x ∧ x + l.length + ((l.take k).map (cntR d)).sum ≤ left) ∧ Hid (∀ j, j < k → fewR d (exAt l j)) ∧ Below w.heap.size w wr) (fun _ iv _ => l.length - (intOf iv).toNat)
    case atStart => exact ⟨0, left - l.length, Nat.zero_le _, rfl, rfl, by simp; omega, Lib.hid (fun j h => by omega), Below.refl _ _⟩
    case round =>
      obtain ⟨k, x, hk, rfl, rfl, ⟨x0, x1⟩, HF, hB⟩ := hrel
      by_cases hlt : k < l.length
      · have hd : ∃ m, d = m + 1 := by
          cases d with
          | zero => have := exS.zero hU; subst this; simp at hlt
          | succ m => exact ⟨m, rfl⟩
        obtain ⟨m, hm⟩ := hd
        subst hm
        have HQ1 := Lib.hid (HQ.out m rfl)
        have HCT := Lib.hid (cnt_take (d := m + 1) hlt)
        obtain ⟨sm, hsm⟩ : ∃ n : Nat, n = ((l.take k).map (cntR (m + 1))).sum := ⟨_, rfl⟩
        rw [← hsm] at x1
        have HSM := Lib.hid hsm
        clear hsm
        obtain ⟨b, off, rfl, hc⟩ := hU.cells (by omega)
        obtain ⟨A', c', hfd, hs, p0, p1, p2, p3⟩ := hc k hlt
        replace p0 := below_cell hB p0
        replace p1 := below_cell hB p1
        replace p2 := below_cell hB p2
        replace p3 := below_cell hB p3
        replace hfd := hfd.below hB
        clear hc
        go_wp2_with fail
        refine (HQ1.out _ _ _ _ _ hfd hs x0 (by omega)).mono ?_
        rintro e w1 ⟨y, rfl, hy, hb⟩
        replace hB := ext_trans hB hb
        clear p0 p1 p2 p3 hfd hb
        rcases hy with rfl | ⟨y0, y1, hp⟩
        · go_wp2
          go_ret
          exact ⟨-1, rfl, .inl rfl, hB⟩
        · have HF2 := Lib.hid (all_succ (p := fun j => fewR (m + 1) (exAt l j)) HF.out hp)
          clear hp
          go_wp2
          go_roundw
          case rel => exact ⟨k + 1, y, by omega, by go_num, rfl, ⟨y0, by rw [HCT.out, ← HSM.out]; have e : cntR (m + 1) (exAt l k) = cntS m (exAt l k).ps := rfl; omega⟩, HF2, hB⟩
          case measure => simp [intOf]; omega
      · obtain rfl : k = l.length := by omega
        go_wp2
        go_ret
        exact ⟨x, rfl, .inr ⟨x0, by rw [cntS]; rw [List.take_length] at x1; omega, by omega, HF.out⟩, hB⟩
theorem szP_all : ∀ d, SzP d
  | 0 => szP_of (fun m h => by omega)
  | d + 1 => szP_of (fun m h => by cases h; exact szQ_of (szP_all d))
theorem szExpr_any {d : Nat} {A : Option Addr} {r : Ex} {c : Nat} {left : Int} {w : World} (h1 : exW d w A r.ps) (h2 : r.s.size ≤ 9223372036854775807) (h3 : 0 ≤ left) (h4 : left ≤ 1048576) :
    Calls Try.prog 20 #[.agg #[.int .i64 r.k, .int .i64 r.n, .string r.s, .slice A r.ps.length c], .int .i64 left] w (SzPst left (cntS d r.ps) (fewS d r.ps) w) := szQ_of (szP_all d) A r c left w h1 h2 h3 h4
end Go.Proofs.Ytodjokdaofefdaa
