/- Records: sizes, and lists compared. -/
import Derived.Test.YtdpiaiblpafglaaRcF
namespace Go.Proofs.Ytdpiaiblpafglaa
set_option linter.unusedSimpArgs false
set_option linter.unusedVariables false
open Go.RowKit

/-- What a size leaves. -/
def SzPost (left : Int) (n : Nat) (w : World) (e : Ending) (w' : World) : Prop := ∃ x : Int, e = .returned (.int .i64 x) ∧ (x = -1 ∨ (0 ≤ x ∧ x + n ≤ left)) ∧ Below w.heap.size w w'
def WfFd (l : FdL) : Prop := ∀ f ∈ l, f.1.size ≤ 9223372036854775807
theorem WfFd.at {l : FdL} (h : WfFd l) {k : Nat} (hk : k < l.length) : (fd0 l k).size ≤ 9223372036854775807 := by
  have := h _ (List.getElem_mem hk)
  rwa [← fd_elem hk] at this

set_option maxHeartbeats 400000 in
theorem szField_any {s : ByteArray} {a b left : Int} {w : World} (hs : s.size ≤ 9223372036854775807) (h0 : 0 ≤ left) (h1 : left ≤ 1048576) :
    Calls Try.prog 60 #[.agg #[.string s, .int .i64 a, .int .i64 b], .int .i64 left] w (SzPost left 0 w) := by
  by_cases h : left < s.size
  · go_enter Try.func60, Try.ntmps60
    go_wp2
    go_ret
    exact ⟨-1, rfl, .inl rfl, below_alloc _ _⟩
  · go_enter Try.func60, Try.ntmps60
    go_wp2
    go_ret
    exact ⟨_, rfl, .inr ⟨by omega, by omega⟩, below_alloc _ _⟩
set_option maxHeartbeats 1000000 in
theorem szFieldS_any {A : Option Addr} {l : FdL} {c : Nat} {left : Int} {w : World} (hU : fdR w A l) (hw : WfFd l) (h0 : 0 ≤ left) (h1 : left ≤ 1048576) :
    Calls Try.prog 53 #[.slice A l.length c, .int .i64 left] w (SzPost left l.length w) := by
  have hlen := hU.len
  by_cases h : left < l.length
  · go_enter Try.func53, Try.ntmps53
    go_wp2
    go_ret
    exact ⟨-1, rfl, .inl rfl, Below.refl _ _⟩
  · go_enter Try.func53, Try.ntmps53
    go_wp2
    go_loopw [1, 5] (fun xv iv wr => ∃ (k : Nat) (x : Int), k ≤ l.length ∧ iv = .int .i64 k ∧ xv = .int .i64 x ∧ (0 ≤ x ∧ x + l.length ≤ left) ∧ Below w.heap.size w wr) (fun _ iv _ => l.length - (intOf iv).toNat)
    case atStart => exact ⟨0, left - l.length, Nat.zero_le _, rfl, rfl, by omega, Below.refl _ _⟩
    case round =>
      obtain ⟨k, x, hk, rfl, rfl, ⟨x0, x1⟩, hB⟩ := hrel
      by_cases hlt : k < l.length
      · obtain ⟨b, off, rfl, hc⟩ := hU.cells (by omega)
        obtain ⟨c0, c1, c2⟩ := hc k hlt
        replace c0 := below_cell hB c0
        replace c1 := below_cell hB c1
        replace c2 := below_cell hB c2
        have hs := hw.at hlt
        clear hc
        go_wp2_with fail
        refine (szField_any hs x0 (by omega)).mono ?_
        rintro e w1 ⟨y, rfl, hy, hb⟩
        replace hB := ext_trans hB hb
        clear c0 c1 c2
        rcases hy with rfl | ⟨y0, y1⟩
        · go_wp2
          go_ret
          exact ⟨-1, rfl, .inl rfl, hB⟩
        · go_wp2
          go_roundw
          case rel => exact ⟨k + 1, y, by omega, by go_num, rfl, by omega, hB⟩
          case measure => simp [intOf]; omega
      · obtain rfl : k = l.length := by omega
        go_wp2
        go_ret
        exact ⟨x, rfl, .inr ⟨x0, x1⟩, hB⟩
set_option maxHeartbeats 1000000 in
theorem szRequest_any {A : Option Addr} {fs : FdL} {c : Nat} {who act what left : Int} {w : World} (hU : fdR w A fs) (hw : WfFd fs) (h0 : 0 ≤ left) (h1 : left ≤ 1048576) :
    Calls Try.prog 32 #[.agg #[.int .i64 who, .int .i64 act, .int .i64 what, .slice A fs.length c], .int .i64 left] w (SzPost left fs.length w) := by
  have hB := below_alloc w (.cells #[.int .i64 who, .int .i64 act, .int .i64 what, .slice A fs.length c] 38)
  go_enter Try.func32, Try.ntmps32
  go_wp2_with fail
  refine (szFieldS_any (hU.below hB) hw h0 h1).mono ?_
  rintro e w1 ⟨y, rfl, hy, hb⟩
  replace hB := ext_trans hB hb
  rcases hy with rfl | ⟨y0, y1⟩
  · go_wp2
    go_ret
    exact ⟨-1, rfl, .inl rfl, hB⟩
  · go_wp2
    go_ret
    exact ⟨y, rfl, .inr ⟨y0, y1⟩, hB⟩
set_option maxHeartbeats 1000000 in
theorem szRecord_any {A : Option Addr} {fs : FdL} {c : Nat} {tm who act what sl left : Int} {al : Bool} {w : World} (hU : fdR w A fs) (hw : WfFd fs) (h0 : 0 ≤ left) (h1 : left ≤ 1048576) :
    Calls Try.prog 18 #[.agg #[.int .i64 tm, .int .i64 who, .int .i64 act, .int .i64 what, .slice A fs.length c, .bool al, .int .i64 sl], .int .i64 left] w (SzPost left fs.length w) := by
  have hB := below_alloc w (.cells #[.int .i64 tm, .int .i64 who, .int .i64 act, .int .i64 what, .slice A fs.length c, .bool al, .int .i64 sl] 40)
  go_enter Try.func18, Try.ntmps18
  go_wp2_with fail
  refine (szRequest_any (hU.below hB) hw h0 h1).mono ?_
  rintro e w1 ⟨y, rfl, hy, hb⟩
  replace hB := ext_trans hB hb
  rcases hy with rfl | ⟨y0, y1⟩
  · go_wp2
    go_ret
    exact ⟨-1, rfl, .inl rfl, hB⟩
  · go_wp2
    go_ret
    exact ⟨y, rfl, .inr ⟨y0, y1⟩, hB⟩
def WfRc (l : RcL) : Prop := ∀ r ∈ l, WfFd (rfs r)
theorem WfRc.at {l : RcL} (h : WfRc l) {k : Nat} (hk : k < l.length) : WfFd (rc4 l k) := by
  have := h _ (List.getElem_mem hk)
  rwa [← rcAt_eq hk] at this
/-- All records have few fields. -/
def FewF (n : Nat) (l : RcL) : Prop := ∀ k, k < l.length → (rc4 l k).length ≤ n
def SzPostR (left : Int) (l : RcL) (w : World) (e : Ending) (w' : World) : Prop := ∃ x : Int, e = .returned (.int .i64 x) ∧ (x = -1 ∨ (0 ≤ x ∧ x + l.length ≤ left ∧ FewF 1048576 l)) ∧ Below w.heap.size w w'
set_option maxRecDepth 100000 in
set_option maxHeartbeats 1000000 in
theorem szRecordS_any {A : Option Addr} {l : RcL} {c : Nat} {left : Int} {w : World} (hU : rcR w A l) (hw : WfRc l) (h0 : 0 ≤ left) (h1 : left ≤ 1048576) :
    Calls Try.prog 29 #[.slice A l.length c, .int .i64 left] w (SzPostR left l w) := by
  have hlen := hU.len
  by_cases h : left < l.length
  · go_enter Try.func29, Try.ntmps29
    go_wp2
    go_ret
    exact ⟨-1, rfl, .inl rfl, Below.refl _ _⟩
  · go_enter Try.func29, Try.ntmps29
    go_wp2
    go_loopw [1, 5] (fun xv iv wr => ∃ (k : Nat) (x : Int), k ≤ l.length ∧ iv = .int .i64 k ∧ xv = .int .i64 x ∧ (0 ≤ x ∧ x + l.length ≤ left) ∧ Hid (∀ j, j < k → (rc4 l j).length ≤ 1048576) ∧ Below w.heap.size w wr) (fun _ iv _ => l.length - (intOf iv).toNat)
    case atStart => exact ⟨0, left - l.length, Nat.zero_le _, rfl, rfl, by omega, Lib.hid (fun j h => by omega), Below.refl _ _⟩
    case round =>
      obtain ⟨k, x, hk, rfl, rfl, ⟨x0, x1⟩, HF, hB⟩ := hrel
      by_cases hlt : k < l.length
      · obtain ⟨b, off, rfl, hc⟩ := hU.cells (by omega)
        obtain ⟨A', c', hfd, c0, c1, c2, c3, c4, c5, c6⟩ := hc k hlt
        replace c0 := below_cell hB c0
        replace c1 := below_cell hB c1
        replace c2 := below_cell hB c2
        replace c3 := below_cell hB c3
        replace c4 := below_cell hB c4
        replace c5 := below_cell hB c5
        replace c6 := below_cell hB c6
        have HW := Lib.hid (hw.at hlt)
        replace hfd := hfd.below hB
        clear hc
        go_wp2_with fail
        refine (szRecord_any hfd HW.out x0 (by omega)).mono ?_
        rintro e w1 ⟨y, rfl, hy, hb⟩
        replace hB := ext_trans hB hb
        clear c0 c1 c2 c3 c4 c5 c6 hfd hb
        rcases hy with rfl | ⟨y0, y1⟩
        · go_wp2
          go_ret
          exact ⟨-1, rfl, .inl rfl, hB⟩
        · have HF2 := Lib.hid (all_succ (p := fun j => (rc4 l j).length ≤ 1048576) HF.out (by omega))
          go_wp2
          go_roundw
          case rel => exact ⟨k + 1, y, by omega, by go_num, rfl, by omega, HF2, hB⟩
          case measure => simp [intOf]; omega
      · obtain rfl : k = l.length := by omega
        go_wp2
        go_ret
        exact ⟨x, rfl, .inr ⟨x0, x1, HF.out⟩, hB⟩

theorem eqRecord_at {A A' : Option Addr} {us vs : RcL} {k : Nat} {c c' : Nat} {w : World} (hU : fdR w A (rc4 us k)) (hV : fdR w A' (rc4 vs k)) :
    Calls Try.prog 20 #[.agg #[.int .i64 (rc0 us k), .int .i64 (rc1 us k), .int .i64 (rc2 us k), .int .i64 (rc3 us k), .slice A (rc4 us k).length c, .bool (rc5 us k), .int .i64 (rc6 us k)], .agg #[.int .i64 (rc0 vs k), .int .i64 (rc1 vs k), .int .i64 (rc2 vs k), .int .i64 (rc3 vs k), .slice A' (rc4 vs k).length c', .bool (rc5 vs k), .int .i64 (rc6 vs k)]] w fun e w' => e = .returned (.bool (sameB (rcAt us k) (rcAt vs k))) ∧ Below w.heap.size w w' := eqRecord_any hU hV
theorem rc_same {us vs : RcL} (h : us.length = vs.length) (h2 : ∀ k, k < us.length → rcAt us k = rcAt vs k) : true = sameB us vs := by
  rw [eq_comm, sameB_true]
  apply List.ext_getElem h
  intro k h3 h4
  rw [← rcAt_eq h3, ← rcAt_eq h4]
  exact h2 k h3
set_option maxRecDepth 100000 in
set_option maxHeartbeats 4000000 in
theorem eqRecordS_any {A A' : Option Addr} {us vs : RcL} {c c' : Nat} {w : World} (hU : rcR w A us) (hV : rcR w A' vs) :
    Calls Try.prog 31 #[.slice A us.length c, .slice A' vs.length c'] w fun e w' => e = .returned (.bool (sameB us vs)) ∧ Below w.heap.size w w' := by
  have hl := hU.len
  have hl' := hV.len
  by_cases hlen : us.length = vs.length
  · have HL := Lib.hid hlen
    have hlen1 : ((us.length : Int) != vs.length) = false := by simp [hlen]
    clear hlen
    go_enter Try.func31, Try.ntmps31
    go_wp2
    go_loopw [5] (fun i wr => ∃ k : Nat, k ≤ us.length ∧ i = .int .i64 k ∧ Below w.heap.size w wr ∧ (∀ j, j < k → rcAt us j = rcAt vs j)) (fun i _ => us.length - (intOf i).toNat)
    case atStart => exact ⟨0, Nat.zero_le _, rfl, Below.refl _ _, fun j h => by omega⟩
    case round =>
      obtain ⟨k, hk, rfl, hB, hgood⟩ := hrel
      have HG := Lib.hid hgood
      clear hgood
      by_cases hlt : k < us.length
      · have hlt' : k < vs.length := by rw [← HL.out]; exact hlt
        obtain ⟨b, off, rfl, hc⟩ := hU.cells (by omega)
        obtain ⟨b', off', rfl, hc'⟩ := hV.cells (by omega)
        obtain ⟨A1, c1, hfd, p0, p1, p2, p3, p4, p5, p6⟩ := hc k hlt
        obtain ⟨A2, c2, hfd2, q0, q1, q2, q3, q4, q5, q6⟩ := hc' k hlt'
        replace p0 := cell_regrown (below_cell hB p0)
        replace p1 := cell_regrown (below_cell hB p1)
        replace p2 := cell_regrown (below_cell hB p2)
        replace p3 := cell_regrown (below_cell hB p3)
        replace p4 := cell_regrown (below_cell hB p4)
        replace p5 := cell_regrown (below_cell hB p5)
        replace p6 := cell_regrown (below_cell hB p6)
        replace q0 := cell_regrown (below_cell hB q0)
        replace q1 := cell_regrown (below_cell hB q1)
        replace q2 := cell_regrown (below_cell hB q2)
        replace q3 := cell_regrown (below_cell hB q3)
        replace q4 := cell_regrown (below_cell hB q4)
        replace q5 := cell_regrown (below_cell hB q5)
        replace q6 := cell_regrown (below_cell hB q6)
        replace hfd := hfd.below hB
        replace hfd2 := hfd2.below hB
        clear hc hc'
        have HE := Lib.hid (fun (d : Nat) (os : Array Obj) => eqRecord_at (c := c1) (c' := c2) (hfd.regrown d os) (hfd2.regrown d os))
        cases g : sameB (rcAt us k) (rcAt vs k)
        all_goals
          rw [g] at HE
          go_wp2
          refine wp_region_quiet_below (by kernel_rfl) (by kernel_rfl) ?_
          repeat (go_big_quiet_step ((go_at_call 20; (with_reducible exact Calls.regrown_of (HE.out _ _)))))
          refine wpQuiet_nil ?_
          intro w2 hw'regrown
          replace hB := ext_trans hB (below_of_regrown hw'regrown (Nat.le_refl _))
          clear hw'regrown p0 p1 p2 p3 p4 p5 p6 q0 q1 q2 q3 q4 q5 q6
          go_wp2
        · go_ret
          exact ⟨ret_bool (by rw [eq_comm, sameB_false]; rintro rfl; rw [sameB_self] at g; cases g), hB⟩
        · go_roundw
          case rel => exact ⟨k + 1, by omega, by go_num, hB, all_succ HG.out (sameB_true.1 g)⟩
          case measure => simp [intOf]; omega
      · obtain rfl : k = us.length := by omega
        go_wp2
        go_ret
        exact ⟨ret_bool (rc_same HL.out HG.out), hB⟩
  · have hlen1 : ((us.length : Int) != vs.length) = true := by simp; omega
    have HL := Lib.hid hlen
    clear hlen
    go_enter Try.func31, Try.ntmps31
    go_wp2
    go_ret
    exact ⟨ret_bool (by rw [eq_comm, sameB_false]; rintro rfl; exact HL.out rfl), Below.refl _ _⟩
end Go.Proofs.Ytdpiaiblpafglaa
