/- Rules of texts, read by the program and by the reference. -/
import Derived.Test.YtpmelhkhmichcaaDoorRdB
namespace Go.Proofs.YtpmelhkhmichcaaDoor
set_option linter.unusedSimpArgs false
set_option linter.unusedVariables false
open Go.RowKit

set_option maxRecDepth 100000 in
set_option maxHeartbeats 4000000 in
theorem implReadRule {s : ByteArray} {w : World} (hs : s.size ≤ 1048576) (hE : EvW w) :
    Calls Tryd.prog 16 #[.string s] w fun e w' => ∃ (r : Rul) (ok : Bool), e = .returned (.tuple #[.agg #[.string r.1, .int .i64 r.2.1, .bool r.2.2], .bool ok]) ∧ RrP s r ok ∧ Below w.heap.size w w' := by
  by_cases h3 : (sws s).length = 3
  · have HY := Lib.hid (fun v => rr_yes (s := s) (v := v) h3)
    have hz0 := sws_size (s := s) (k := 0) (by omega)
    have hz1 := sws_size (s := s) (k := 1) (by omega)
    have hz2 := sws_size (s := s) (k := 2) (by omega)
    go_enter Tryd.func16, Tryd.ntmps16
    go_wp2_with fail
    refine (split_sp (by omega)).mono ?_
    rintro e w1 ⟨A, c, rfl, ho, hb⟩
    have hE1 : EvW w1 := hE.below (ext_trans (below_alloc _ _) hb)
    have hS : sgR w1 A (sws s) := sgR.own rfl (by omega) ho
    obtain ⟨b, off, rfl, hcs⟩ := hS.cells (by omega)
    have c0 := hcs 0 (by omega)
    rw [Nat.add_zero] at c0
    have c1 := hcs 1 (by omega)
    have c2 := hcs 2 (by omega)
    rw [h3]
    have H3 := Lib.hid h3
    have HB := Lib.hid hb
    clear ho hS hcs h3 hb
    go_wp2_with fail
    refine (atoi_any (by omega) hE1).mono ?_
    rintro e w2 ⟨v, x, rfl, hv, hb2⟩
    replace c0 := below_cell hb2 c0
    replace c1 := below_cell hb2 c1
    have HV := Lib.hid hv
    clear c2 hE1 hv
    have HB2 := Lib.hid hb2
    clear hb2
    have hbe : decide (sg0 (sws s) 0 = wAllow) = ((sg0 (sws s) 0).toList == [97, 108, 108, 111, 119]) := by
      rw [← str_beq, show wAllow.toList = [97, 108, 108, 111, 119] by rw [Go.ByteArray.toList_eq]; rfl]
    generalize hq : sg0 (sws s) 0 = q at *
    obtain ⟨b0, hb0⟩ : ∃ b0, (q.toList == [97, 108, 108, 111, 119]) = b0 := ⟨_, rfl⟩
    rw [hb0] at hbe
    rw [hbe] at HY
    have HBE := Lib.hid hbe
    clear hbe
    have HQ := Lib.hid hq
    clear hq
    have n0 := below_cell (below_alloc w2 (.cells #[.string ⟨#[]⟩, .int .i64 0, .bool false] 25)) c0
    have n1 := below_cell (below_alloc w2 (.cells #[.string ⟨#[]⟩, .int .i64 0, .bool false] 25)) c1
    go_wp2
    go_region
    obtain ⟨X, hX⟩ : ∃ X, X = (w2.alloc (.cells #[.string (sg0 (sws s) 1), .int .i64 v, .bool b0] 25)).drew := ⟨_, rfl⟩
    obtain ⟨g, hg⟩ : ∃ g, g = w2.heap.size := ⟨_, rfl⟩
    have hBX : Below w2.heap.size w2 X := by rw [hX]; exact (below_alloc w2 _).drew
    have x0 : X.cell? ⟨g, 0, none⟩ = some (.string (sg0 (sws s) 1)) := by rw [hX, hg]; exact box_cell w2 _ _ 0 _ rfl
    have x1 : X.cell? ⟨g, 1, none⟩ = some (.int .i64 v) := by rw [hX, hg]; exact box_cell w2 _ _ 1 _ rfl
    have x2 : X.cell? ⟨g, 2, none⟩ = some (.bool b0) := by rw [hX, hg]; exact box_cell w2 _ _ 2 _ rfl
    rw [← hX, ← hg]
    obtain ⟨W0, hW0⟩ : ∃ W0, W0 = w.alloc (.cells #[.string ⟨#[]⟩, .int .i64 0, .bool false] 25) := ⟨_, rfl⟩
    have hBW : Below w.heap.size w W0 := by rw [hW0]; exact below_alloc _ _
    have z0 : W0.cell? ⟨w.heap.size, 0, none⟩ = some (.string ⟨#[]⟩) := by rw [hW0]; exact box_cell w _ _ 0 _ rfl
    have z1 : W0.cell? ⟨w.heap.size, 1, none⟩ = some (.int .i64 0) := by rw [hW0]; exact box_cell w _ _ 1 _ rfl
    have z2 : W0.cell? ⟨w.heap.size, 2, none⟩ = some (.bool false) := by rw [hW0]; exact box_cell w _ _ 2 _ rfl
    have f0 : W0.frozen? ⟨w.heap.size, 0, none⟩ = false := by rw [hW0]; simp
    have f1 : W0.frozen? ⟨w.heap.size, 1, none⟩ = false := by rw [hW0]; simp
    have f2 : W0.frozen? ⟨w.heap.size, 2, none⟩ = false := by rw [hW0]; simp
    have hB1 := HB.out
    rw [← hW0] at hB1
    have hBall : Below W0.heap.size W0 X := ext_trans (ext_trans hB1 HB2.out) hBX
    have hgx := block_lt_of_cell x0
    have HBall := Lib.hid hBall
    have HBW := Lib.hid hBW
    clear hX hg hBX hW0 hB1 c0 c1 n0 n1 hBall hBW HB HB2
    go_wp2_with fail
    refine (implRuleText _ (by omega)).mono ?_
    rintro e w3 ⟨rfl, hb3⟩
    have hB3 := ext_trans HBall.out hb3
    replace x0 := below_cell hb3 x0
    replace x1 := below_cell hb3 x1
    replace x2 := below_cell hb3 x2
    have g0 := hB3.frozen (p := ⟨w.heap.size, 0, none⟩) (block_lt_of_cell z0)
    have g1 := hB3.frozen (p := ⟨w.heap.size, 1, none⟩) (block_lt_of_cell z1)
    have g2 := hB3.frozen (p := ⟨w.heap.size, 2, none⟩) (block_lt_of_cell z2)
    rw [f0] at g0
    rw [f1] at g1
    rw [f2] at g2
    replace z0 := below_cell hB3 z0
    replace z1 := below_cell hB3 z1
    replace z2 := below_cell hB3 z2
    have hgw := block_lt_of_cell z0
    have hgx := block_lt_of_cell x0
    have HB3 := Lib.hid (ext_trans HBW.out hB3)
    clear f0 f1 f2 hb3 hB3
    by_cases hq : rtV (sg0 (sws s) 1) v b0 = s
    · have e2 : ((rtV (sg0 (sws s) 1) v b0).toList == s.toList) = true := by rw [str_beq]; simpa using hq
      have HRR := Lib.hid (HY.out v hq)
      clear hq
      go_wp2
      refine bodyPost_ret (v := .tuple #[.agg #[.string (sg0 (sws s) 1), .int .i64 v, .bool b0], .bool true]) (by simp [results, go_sem, z0, z1, z2]) rfl ⟨(sg0 (sws s) 1, v, b0), true, rfl, HRR.out, ?_⟩
      have hb2 := HB3.out
      repeat (first | (with_reducible exact hb2) | with_reducible refine Below.setCell ?_ (by (try simp) <;> omega) _)
    · have e2 : ((rtV (sg0 (sws s) 1) v b0).toList == s.toList) = false := by rw [str_beq]; simpa using hq
      have HRR := Lib.hid (rr_no HV.out (by rw [HQ.out, HBE.out]; exact hq))
      clear hq
      go_wp2
      refine bodyPost_ret (v := .tuple #[.agg #[.string ByteArray.empty, .int .i64 0, .bool false], .bool false]) (by simp [results, go_sem, z0, z1, z2]; rfl) rfl ⟨(ByteArray.empty, 0, false), false, rfl, HRR.out, ?_⟩
      have hb2 := HB3.out
      repeat (first | (with_reducible exact hb2) | with_reducible refine Below.setCell ?_ (by (try simp) <;> omega) _)
  · have HR := Lib.hid (rr_short h3)
    go_enter Tryd.func16, Tryd.ntmps16
    go_wp2_with fail
    refine (split_sp (by omega)).mono ?_
    rintro e w1 ⟨A, c, rfl, ho, hb⟩
    obtain ⟨hc, hf⟩ := bcell hb
    have hz := hb.size
    simp only [World.size_alloc] at hz ⊢
    have hl := sws_len s
    have e1 : (((sws s).length : Int) != 3) = true := by simp; omega
    go_wp2
    refine bodyPost_ret (v := .tuple #[.agg #[.string ByteArray.empty, .int .i64 0, .bool false], .bool false]) (by simp [results, go_sem, hc]; rfl) rfl ⟨(ByteArray.empty, 0, false), false, rfl, HR.out, ?_⟩
    have hb2 : Below w.heap.size w w1 := ext_trans (below_alloc _ _) hb
    repeat (first | (with_reducible exact hb2) | with_reducible refine Below.setCell ?_ (by (try simp) <;> omega) _)
end Go.Proofs.YtpmelhkhmichcaaDoor
