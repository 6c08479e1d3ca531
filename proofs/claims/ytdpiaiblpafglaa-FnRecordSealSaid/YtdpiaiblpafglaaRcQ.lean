/- FnRecordSeal, walked. -/
import Derived.Test.YtdpiaiblpafglaaRcP
import Derived.Test.YtdpiaiblpafglaaAlv
namespace Go.Proofs.Ytdpiaiblpafglaa
open Go.RowKit

set_option maxRecDepth 100000 in
set_option maxHeartbeats 8000000 in
theorem lawRecordSeal {A : Option Addr} {l : List Int} {c : Nat} {w : World} (hC : CodeR w w.heap.size A l) (hc : l.length ≤ c) :
    Calls Try.prog 3 #[.slice A l.length c] w fun e w' => e = .returned (.bool true) ∧ Below w.heap.size w w' := by
  by_cases h : (1048576 : Int) < l.length
  · go_enter Try.func3, Try.ntmps3
    go_wp2
    go_ret
    exact ⟨rfl, Below.refl _ _⟩
  · go_enter Try.func3, Try.ntmps3
    go_wp2_with fail
    refine (DrawRecordSeal_d hC hc).mono ?_
    rintro e w1 ⟨s, r, Af, cf, rfl, hfd, hB⟩
    obtain ⟨tm, who, act, what, fs, al, sl⟩ := r
    simp only [rtm, rwho, ract, rwhat, rfs, ral, rsl] at hfd ⊢
    have q0 := box_cell w1 #[.int .i64 tm, .int .i64 who, .int .i64 act, .int .i64 what, .slice Af fs.length cf, .bool al, .int .i64 sl] 27 0 (.int .i64 tm) rfl
    have q1 := box_cell w1 #[.int .i64 tm, .int .i64 who, .int .i64 act, .int .i64 what, .slice Af fs.length cf, .bool al, .int .i64 sl] 27 1 (.int .i64 who) rfl
    have q2 := box_cell w1 #[.int .i64 tm, .int .i64 who, .int .i64 act, .int .i64 what, .slice Af fs.length cf, .bool al, .int .i64 sl] 27 2 (.int .i64 act) rfl
    have q3 := box_cell w1 #[.int .i64 tm, .int .i64 who, .int .i64 act, .int .i64 what, .slice Af fs.length cf, .bool al, .int .i64 sl] 27 3 (.int .i64 what) rfl
    have q4 := box_cell w1 #[.int .i64 tm, .int .i64 who, .int .i64 act, .int .i64 what, .slice Af fs.length cf, .bool al, .int .i64 sl] 27 4 (.slice Af fs.length cf) rfl
    have q5 := box_cell w1 #[.int .i64 tm, .int .i64 who, .int .i64 act, .int .i64 what, .slice Af fs.length cf, .bool al, .int .i64 sl] 27 5 (.bool al) rfl
    have q6 := box_cell w1 #[.int .i64 tm, .int .i64 who, .int .i64 act, .int .i64 what, .slice Af fs.length cf, .bool al, .int .i64 sl] 27 6 (.int .i64 sl) rfl
    have hbl := below_alloc w1 (.cells #[.int .i64 tm, .int .i64 who, .int .i64 act, .int .i64 what, .slice Af fs.length cf, .bool al, .int .i64 sl] 27)
    obtain ⟨X, hX⟩ : ∃ X, X = w1.alloc (.cells #[.int .i64 tm, .int .i64 who, .int .i64 act, .int .i64 what, .slice Af fs.length cf, .bool al, .int .i64 sl] 27) := ⟨_, rfl⟩
    obtain ⟨g, hg⟩ : ∃ g, g = w1.heap.size := ⟨_, rfl⟩
    rw [← hX] at q0 q1 q2 q3 q4 q5 q6 hbl
    rw [← hg] at q0 q1 q2 q3 q4 q5 q6
    replace hB := ext_trans hB hbl
    have HX := Lib.hid hX
    have HG := Lib.hid hg
    obtain ⟨n, hn⟩ : ∃ n, n = rcSeal s tm who act what al := ⟨_, rfl⟩
    have hb := rcSeal_bounds s tm who act what al
    rw [← hn] at hb
    obtain ⟨hn0, hn1⟩ := hb
    have hn2 : n < 1000003 := by omega
    have hI : ∀ (k : Nat) (c : Nat) (sl : Int) (w : World), Calls Try.prog 12 #[.int .i64 s, .agg #[.int .i64 tm, .int .i64 who, .int .i64 act, .int .i64 what, .slice Af k c, .bool al, .int .i64 sl]] w fun e w' => e = .returned (.int .i64 n) ∧ Below w.heap.size w w' := fun k c sl w => by rw [hn]; exact implRecordSeal
    have hS : ∀ (k : Nat) (c : Nat) (sl : Int) (w : World), Calls Try.prog 13 #[.int .i64 s, .agg #[.int .i64 tm, .int .i64 who, .int .i64 act, .int .i64 what, .slice Af k c, .bool al, .int .i64 sl]] w fun e w' => e = .returned (.int .i64 n) ∧ Below w.heap.size w w' := fun k c sl w => by rw [hn]; exact specRecordSeal
    have HI := Lib.hid hI
    have HS := Lib.hid hS
    clear hX hg hbl hfd hn hI hS
    go_wp2_with fail
    rw [← HX.out, ← HG.out]
    refine (HI.out _ _ _ _).mono ?_
    rintro e w2 ⟨rfl, hBc⟩
    replace hB := ext_trans hB hBc
    replace q0 := below_cell hBc q0
    replace q1 := below_cell hBc q1
    replace q2 := below_cell hBc q2
    replace q3 := below_cell hBc q3
    replace q4 := below_cell hBc q4
    replace q5 := below_cell hBc q5
    replace q6 := below_cell hBc q6
    clear hBc
    go_wp2_with fail
    refine (HS.out _ _ _ _).mono ?_
    rintro e w3 ⟨rfl, hBc⟩
    replace hB := ext_trans hB hBc
    replace q0 := below_cell hBc q0
    replace q1 := below_cell hBc q1
    replace q2 := below_cell hBc q2
    replace q3 := below_cell hBc q3
    replace q4 := below_cell hBc q4
    replace q5 := below_cell hBc q5
    replace q6 := below_cell hBc q6
    clear hBc
    have hgz : g < w3.heap.size := by have := block_lt_of_cell q6; simpa using this
    go_wp2_with fail
    refine (HI.out _ _ _ _).mono ?_
    rintro e w5 ⟨rfl, hb5⟩
    replace hB := ext_trans (ext_alloc hB _) hb5
    clear hb5 q0 q1 q2 q3 q4 q5 q6
    go_wp2_with fail
    refine (alive_any _).mono ?_
    rintro e w6 ⟨rfl, hb6⟩
    replace hB := ext_trans hB hb6
    clear hb6
    go_wp2
    go_ret
    exact ⟨rfl, hB⟩
end Go.Proofs.Ytdpiaiblpafglaa
