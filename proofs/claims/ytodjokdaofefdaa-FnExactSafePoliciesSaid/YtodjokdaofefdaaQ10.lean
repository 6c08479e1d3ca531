/- Kinded: conversions, comparison of slices. Printed by gentype.py. -/
import Derived.Test.YtodjokdaofefdaaQ9
import Derived.Test.YtodjokdaofefdaaQ2
import Derived.Test.YtodjokdaofefdaaQ6
namespace Go.Proofs.Ytodjokdaofefdaa
set_option linter.unusedSimpArgs false
set_option linter.unusedVariables false
open Go.RowKit

set_option maxHeartbeats 1000000 in
theorem toKindedS_any {A : Option Addr} {l : List (ByteArray × Int)} {c : Nat} {w : World} (hU : kdR w A l) (hn : l.length ≤ 2097152) :
    Calls Try.prog 89 #[.slice A l.length c] w fun e w' => e = .returned (.slice (some ⟨w.heap.size, 0, none⟩) l.length l.length) ∧
      w'.ownsRow w.heap.size 84 2 (.slice (some ⟨w.heap.size, 0, none⟩) l.length l.length) l.length (l.flatMap kdEnc) ∧ Below w.heap.size w w' := by
  obtain ⟨i0, hi, hz0, hz1, hz2⟩ := info_parts Try.infoKinded
  obtain ⟨wm, hmk, hown, hgr⟩ := run_make_full (P := Try.prog) w w.heap.size 23 84 i0 _ 2 Try.underlying23 hi hz0 hz1 .i64 .i64 l.length (by rw [hz2]; omega) (by simp only [maxLen]; omega) (Nat.le_refl _)
  have hBm : Below w.heap.size w wm := ext_grown (Below.refl _ _) hgr (by simp)
  clear hgr hi hz0 hz1 hz2
  generalize (madeCells _ _).toList = xs0 at hown
  go_enter Try.func89, Try.ntmps89
  go_wp2
  clear hmk
  go_loopw [4] (fun i wr => ∃ k : Nat, k ≤ l.length ∧ i = .int .i64 k ∧ Below w.heap.size w wr ∧ ∃ xs, wr.ownsRow w.heap.size 84 2 (.slice (some ⟨w.heap.size, 0, none⟩) l.length l.length) l.length xs ∧ xs.take (k * 2) = (l.take k).flatMap kdEnc) (fun i _ => l.length - (intOf i).toNat)
  case atStart => exact ⟨0, Nat.zero_le _, rfl, hBm, xs0, hown, by simp⟩
  case round =>
    clear hown hBm
    obtain ⟨k, hk, rfl, hB, xs, hown, htake⟩ := hrel
    have HT := Lib.hid htake
    clear htake
    by_cases hlt : k < l.length
    · obtain ⟨b, off, rfl, hc⟩ := hU.cells (by omega)
      obtain ⟨c0, c1⟩ := hc k hlt
      have m0 := below_cell hB c0
      have m1 := below_cell hB c1
      clear c0 c1 hc
      go_wp2_with (go_at_call 130; refine (toKinded_any _ _ _).mono ?_; rintro e w1 ⟨rfl, hB1⟩; replace hB := ext_trans hB hB1; replace hown := own_below hown hB1; obtain ⟨v0, f0⟩ := own_cell hown (j := k * 2) (by omega); obtain ⟨v1, f1⟩ := own_cell hown (j := k * 2 + 1) (by omega); have z0 := hown.frozenAt (k * 2); have z1 := hown.frozenAt (k * 2 + 1); clear hB1)
      go_roundw
      case rel =>
        obtain ⟨xs', h1, h2⟩ := own_elem [.string (kd0 l k), .int .i64 (kd1 l k)] hown hlt rfl HT.out
        exact ⟨k + 1, by omega, by go_num, setCells_below (Nat.le_refl _) [.string (kd0 l k), .int .i64 (kd1 l k)] (k * 2) hB, xs', h1, by rw [h2, take_succ_enc _ _ _ hlt]; simp [kdEnc, kd0, kd1, hlt]⟩
      case measure => simp [intOf]; omega
    · obtain rfl : k = l.length := by omega
      go_wp2
      go_ret
      refine ⟨rfl, ?_, hB⟩
      have e := HT.out
      rw [List.take_of_length_le (Nat.le_of_eq hown.1), List.take_length] at e
      rw [← e]; exact hown

set_option maxHeartbeats 1000000 in
theorem eqKindedS_any {A A' : Option Addr} {us vs : List (ByteArray × Int)} {c c' : Nat} {w : World} (hU : kdR w A us) (hV : kdR w A' vs) :
    Calls Try.prog 90 #[.slice A us.length c, .slice A' vs.length c'] w fun e w' => e = .returned (.bool (sameB us vs)) ∧ Below w.heap.size w w' := by
  have hl := hU.len
  have hl' := hV.len
  by_cases hlen : us.length = vs.length
  · have HL := Lib.hid hlen
    have hlen1 : ((us.length : Int) != vs.length) = false := by simp [hlen]
    clear hlen
    go_enter Try.func90, Try.ntmps90
    go_wp2
    go_loopw [5] (fun i wr => ∃ k : Nat, k ≤ us.length ∧ i = .int .i64 k ∧ Below w.heap.size w wr ∧ (∀ j, j < k → (kd0 us j, kd1 us j) = (kd0 vs j, kd1 vs j))) (fun i _ => us.length - (intOf i).toNat)
    case atStart => exact ⟨0, Nat.zero_le _, rfl, Below.refl _ _, fun j h => by omega⟩
    case round =>
      obtain ⟨k, hk, rfl, hB, hgood⟩ := hrel
      have HG := Lib.hid hgood
      clear hgood
      by_cases hlt : k < us.length
      · have hlt' : k < vs.length := by rw [← HL.out]; exact hlt
        obtain ⟨b, off, rfl, hc⟩ := hU.cells (by omega)
        obtain ⟨b', off', rfl, hc'⟩ := hV.cells (by omega)
        obtain ⟨c0, c1⟩ := hc k hlt
        obtain ⟨d0, d1⟩ := hc' k hlt'
        have m0 := cell_regrown (below_cell hB c0)
        have m1 := cell_regrown (below_cell hB c1)
        have n0 := cell_regrown (below_cell hB d0)
        have n1 := cell_regrown (below_cell hB d1)
        clear c0 d0 c1 d1 hc hc'
        by_cases g : sameB (kd0 us k, kd1 us k) (kd0 vs k, kd1 vs k) = true
        all_goals
          try simp only [Bool.not_eq_true] at g
          go_wp2
          refine wp_region_quiet_below (by kernel_rfl) (by kernel_rfl) ?_
          repeat (go_big_quiet_step ((go_at_call 131; exact Calls.regrown_of (eqKinded_any _ _ _ _ _))))
          refine wpQuiet_nil ?_
          intro w2 hw'regrown
          replace hB := ext_trans hB (below_of_regrown hw'regrown (Nat.le_refl _))
          clear hw'regrown
          go_wp2
        · go_roundw
          case rel => exact ⟨k + 1, by omega, by go_num, hB, all_succ HG.out (sameB_true.1 g)⟩
          case measure => simp [intOf]; omega
        · go_ret
          exact ⟨ret_bool (kd_differ hlt hlt' (sameB_false.1 g)), hB⟩
      · obtain rfl : k = us.length := by omega
        go_wp2
        go_ret
        exact ⟨ret_bool (kd_same HL.out HG.out), hB⟩
  · have hlen1 : ((us.length : Int) != vs.length) = true := by simp; omega
    have HL := Lib.hid hlen
    clear hlen
    go_enter Try.func90, Try.ntmps90
    go_wp2
    go_ret
    exact ⟨ret_bool (by rw [eq_comm, sameB_false]; rintro rfl; exact HL.out rfl), Below.refl _ _⟩

end Go.Proofs.Ytodjokdaofefdaa
/- Schemas: sizes, conversions, comparison. -/
namespace Go.Proofs.Ytodjokdaofefdaa
set_option linter.unusedSimpArgs false
set_option linter.unusedVariables false
open Go.RowKit

set_option maxHeartbeats 400000 in
theorem szKinded_any {s : ByteArray} {a left : Int} {w : World} (hs : s.size ≤ 9223372036854775807) (h0 : 0 ≤ left) (h1 : left ≤ 1048576) :
    Calls Try.prog 129 #[.agg #[.string s, .int .i64 a], .int .i64 left] w (SzPost left s.size w) := by
  by_cases h : left < s.size
  · go_enter Try.func129, Try.ntmps129
    go_wp2
    go_ret
    exact ⟨-1, rfl, .inl rfl, below_alloc _ _⟩
  · go_enter Try.func129, Try.ntmps129
    go_wp2
    go_ret
    exact ⟨_, rfl, .inr ⟨by omega, by omega⟩, below_alloc _ _⟩
set_option maxHeartbeats 1000000 in
theorem szKindedS_any {A : Option Addr} {l : KdL} {c : Nat} {left : Int} {w : World} (hU : kdR w A l) (hw : WfKd l) (h0 : 0 ≤ left) (h1 : left ≤ 1048576) :
    Calls Try.prog 88 #[.slice A l.length c, .int .i64 left] w (SzPost left l.length w) := by
  have hlen := hU.len
  by_cases h : left < l.length
  · go_enter Try.func88, Try.ntmps88
    go_wp2
    go_ret
    exact ⟨-1, rfl, .inl rfl, Below.refl _ _⟩
  · go_enter Try.func88, Try.ntmps88
    go_wp2
    go_loopw [1, 5] (fun xv iv wr => ∃ (k : Nat) (x : Int), k ≤ l.length ∧ iv = .int .i64 k ∧ xv = .int .i64 x ∧ (0 ≤ x ∧ x + l.length ≤ left) ∧ Below w.heap.size w wr) (fun _ iv _ => l.length - (intOf iv).toNat)
    case atStart => exact ⟨0, left - l.length, Nat.zero_le _, rfl, rfl, by omega, Below.refl _ _⟩
    case round =>
      obtain ⟨k, x, hk, rfl, rfl, ⟨x0, x1⟩, hB⟩ := hrel
      by_cases hlt : k < l.length
      · obtain ⟨b, off, rfl, hc⟩ := hU.cells (by omega)
        obtain ⟨c0, c1⟩ := hc k hlt
        replace c0 := below_cell hB c0
        replace c1 := below_cell hB c1
        have hs := hw.at hlt
        clear hc
        go_wp2_with fail
        refine (szKinded_any hs x0 (by omega)).mono ?_
        rintro e w1 ⟨y, rfl, hy, hb⟩
        replace hB := ext_trans hB hb
        clear c0 c1
        rcases hy with rfl | ⟨y0, y1⟩
        · go_wp2
          go_ret
          exact ⟨-1, rfl, .inl rfl, hB⟩
        · go_wp2
          go_roundw
          case rel => exact ⟨k + 1, y, by omega, by go_num, rfl, by omega, hB⟩
          case measure => simp [intOf]; omega
      · obtain rfl : k = l.length := by omega
        go_wp2
        go_ret
        exact ⟨x, rfl, .inr ⟨x0, x1⟩, hB⟩
set_option maxHeartbeats 1000000 in
theorem szSchema_any {A0 A1 : Option Addr} {s : Sc} {c0 c1 : Nat} {left : Int} {w : World} (hU : scR w A0 A1 s) (h2 : WfKd s.1) (h3 : WfKd s.2) (h0 : 0 ≤ left) (h1 : left ≤ 1048576) :
    Calls Try.prog 33 #[scV s A0 c0 A1 c1, .int .i64 left] w (SzPost left (s.1.length + s.2.length) w) := by
  unfold scV
  obtain ⟨W, hW⟩ : ∃ W, W = w.alloc (.cells #[.slice A0 s.1.length c0, .slice A1 s.2.length c1] 61) := ⟨_, rfl⟩
  obtain ⟨g, hg⟩ : ∃ g, g = w.heap.size := ⟨_, rfl⟩
  have hB : Below w.heap.size w W := by rw [hW]; exact below_alloc _ _
  have hb : W.heap[g]? = some (.cells #[.slice A0 s.1.length c0, .slice A1 s.2.length c1] 61 (0, 0)) := by rw [hW, hg]; exact heap_alloc_new _ _
  have HU := Lib.hid (hU.below hB)
  have HG := Lib.hid hb
  have HW := Lib.hid hW
  have HGG := Lib.hid hg
  obtain ⟨b0, b1⟩ := cells2 hb
  clear hW hg hb hU
  go_enter Try.func33, Try.ntmps33
  go_wp2_with fail
  rw [← HW.out, ← HGG.out]
  refine (szKindedS_any HU.out.1 h2 h0 h1).mono ?_
  rintro e w1 ⟨y, rfl, hy, hb1⟩
  replace hB := ext_trans hB hb1
  have HU := Lib.hid (HU.out.below hb1)
  clear b0 b1
  obtain ⟨b0, b1⟩ := cells2 (block_in HG.out hb1)
  clear hb1
  rcases hy with rfl | ⟨y0, y1⟩
  · go_wp2
    go_ret
    exact ⟨-1, rfl, .inl rfl, hB⟩
  · go_wp2_with fail
    refine (szKindedS_any HU.out.2 h3 y0 (by omega)).mono ?_
    rintro e w2 ⟨z, rfl, hz, hb2⟩
    replace hB := ext_trans hB hb2
    clear hb2 b0 b1
    rcases hz with rfl | ⟨z0, z1⟩
    · go_wp2
      go_ret
      exact ⟨-1, rfl, .inl rfl, hB⟩
    · go_wp2
      go_ret
      exact ⟨z, rfl, .inr ⟨z0, by omega⟩, hB⟩
set_option maxHeartbeats 1000000 in
theorem eqSchema_any {A0 A1 B0 B1 : Option Addr} {s t : Sc} {c0 c1 d0 d1 : Nat} {w : World} (hU : scR w A0 A1 s) (hV : scR w B0 B1 t) :
    Calls Try.prog 37 #[scV s A0 c0 A1 c1, scV t B0 d0 B1 d1] w fun e w' => e = .returned (.bool (sameB s t)) ∧ Below w.heap.size w w' := by
  unfold scV
  obtain ⟨y, hy⟩ : ∃ y, sameB s.1 t.1 = y := ⟨_, rfl⟩
  obtain ⟨z, hz⟩ : ∃ z, sameB s.2 t.2 = z := ⟨_, rfl⟩
  have HS : Hid (sameB s t = (y && z)) := Lib.hid (by
    rw [← hy, ← hz, Bool.eq_iff_iff]
    simp only [sameB_true, Bool.and_eq_true]
    exact Prod.ext_iff)
  have HY := Lib.hid hy
  have HZ := Lib.hid hz
  clear hy hz
  go_enter Try.func37, Try.ntmps37
  go_wp2_with fail
  refine (eqKindedS_any ((hU.1.below (below_alloc _ _)).below (below_alloc _ _)) ((hV.1.below (below_alloc _ _)).below (below_alloc _ _))).mono ?_
  rintro e w1 ⟨rfl, hb⟩
  obtain ⟨hc, hf⟩ := bcell hb
  have hsz := hb.size
  simp only [World.size_alloc] at hsz hc hf
  have HB := Lib.hid (ext_trans (show Below w.heap.size w _ by (repeat (first | exact Below.refl _ _ | refine ext_alloc ?_ _ | refine Below.setCell ?_ (by simp) _))) hb)
  rw [HY.out]
  cases y
  · go_wp2
    go_ret
    exact ⟨by rw [HS.out]; rfl, HB.out⟩
  · go_wp2_with fail
    refine (eqKindedS_any (hU.2.below HB.out) (hV.2.below HB.out)).mono ?_
    rintro e w2 ⟨rfl, hb2⟩
    rw [HZ.out]
    have HB2 := Lib.hid (ext_trans HB.out hb2)
    clear hb2
    cases z
    all_goals
      go_wp2
      go_ret
      exact ⟨by rw [HS.out]; rfl, HB2.out⟩
set_option maxRecDepth 100000 in
set_option maxHeartbeats 2000000 in
theorem toSchema_any {A0 A1 : Option Addr} {s : Sc} {c0 c1 : Nat} {w : World} (hU : scR w A0 A1 s) (n0 : s.1.length ≤ 2097152) (n1 : s.2.length ≤ 2097152) :
    Calls Try.prog 35 #[scV s A0 c0 A1 c1] w fun e w' => ∃ A0' A1', e = .returned (scV s A0' s.1.length A1' s.2.length) ∧ scR w' A0' A1' s ∧ Below w.heap.size w w' := by
  unfold scV
  have h0 := hU.1
  have h1 := hU.2
  have hG := heap_alloc_new ((w.alloc (.cells #[.slice A0 s.1.length c0, .slice A1 s.2.length c1] 61)).alloc (.cells #[.slice Option.none 0 0, .slice Option.none 0 0] 25)) (.cells #[.slice Option.none 0 0, .slice Option.none 0 0] 25)
  simp only [World.size_alloc] at hG
  have HG := Lib.hid hG
  have hR := heap_alloc_new (w.alloc (.cells #[.slice A0 s.1.length c0, .slice A1 s.2.length c1] 61)) (.cells #[.slice Option.none 0 0, .slice Option.none 0 0] 25)
  simp only [World.size_alloc] at hR
  have HR := Lib.hid (block_in hR (below_alloc _ (.cells #[.slice Option.none 0 0, .slice Option.none 0 0] 25)))
  clear hG hR
  go_enter Try.func35, Try.ntmps35
  go_wp2_with fail
  refine (toKindedS_any (h0.below (by (repeat (first | exact Below.refl _ _ | refine ext_alloc ?_ _ | refine Below.setCell ?_ (by simp) _)))) n0).mono ?_
  rintro e w1 ⟨rfl, ho, hb⟩
  obtain ⟨hc, hf⟩ := bcell hb
  have hz := hb.size
  have hB := ext_trans (show Below w.heap.size w _ by (repeat (first | exact Below.refl _ _ | refine ext_alloc ?_ _ | refine Below.setCell ?_ (by simp) _))) hb
  have hs := (own_lt ho).2
  have HG1 := Lib.hid (setCells_atG [.slice (some ⟨w.heap.size + 1 + 1 + 1, 0, none⟩) s.1.length s.1.length] 0 (block_in HG.out hb) (by simp))
  have HR1 := Lib.hid ((Below.heap_setCell w1 ⟨w.heap.size + 1 + 1, 0, none⟩ (.slice (some ⟨w.heap.size + 1 + 1 + 1, 0, none⟩) s.1.length s.1.length) (w.heap.size + 1) (by simp)).trans (block_in HR.out hb))
  have HO := Lib.hid ho
  clear HG HR
  simp only [World.size_alloc, World.size_setCell] at hz hs HO hc hf ⊢
  clear ho
  go_wp2_with fail
  refine (toKindedS_any (h1.below ?_) n1).mono ?_
  · exact Below.setCell hB (by simp; omega) _
  rintro e w2 ⟨rfl, ho2, hb2⟩
  have hz2 := hb2.size
  have hs2 := (own_lt ho2).2
  have hb3 := block_in (o := .cells #[.slice (some ⟨w.heap.size + 1 + 1 + 1, 0, none⟩) s.1.length s.1.length, .slice Option.none 0 0] 25 (0, 0)) HG1.out hb2
  obtain ⟨q0, q1⟩ := cells2 hb3
  obtain ⟨f0, f1⟩ := froz2 hb3
  obtain ⟨r0, r1⟩ := cells2 (block_in HR1.out hb2)
  obtain ⟨g0, g1⟩ := froz2 (block_in HR1.out hb2)
  simp only [World.size_alloc, World.size_setCell] at hz2 ho2 hs2 ⊢
  clear hc hf HG1 HR1 hb3
  go_wp2
  refine bodyPost_ret (v := .agg #[.slice (some ⟨w.heap.size + 1 + 1 + 1, 0, none⟩) s.1.length s.1.length, .slice (some ⟨w1.heap.size, 0, none⟩) s.2.length s.2.length]) (by simp [results, go_sem, r0, r1]) rfl ⟨_, _, rfl, ⟨?_, ?_⟩, ?_⟩
  · refine kdR.keep (w := w1) (kdR.own rfl (by omega) HO.out) ?_
    rintro a ⟨⟩
    refine (Below.heap_setCell _ _ _ _ (by first | omega | (simp; done) | (simp; omega))).trans ((Below.heap_setCell _ _ _ _ (by first | omega | (simp; done) | (simp; omega))).trans ((Below.heap_setCell _ _ _ _ (by first | omega | (simp; done) | (simp; omega))).trans ((hb2.block _ (by first | omega | (simp; done) | (simp; omega))).trans (Below.heap_setCell _ _ _ _ (by first | omega | (simp; done) | (simp; omega))))))
  · refine kdR.keep (w := w2) (kdR.own rfl (by omega) ho2) ?_
    rintro a ⟨⟩
    refine (Below.heap_setCell _ _ _ _ (by first | omega | (simp; done) | (simp; omega))).trans ((Below.heap_setCell _ _ _ _ (by first | omega | (simp; done) | (simp; omega))).trans (Below.heap_setCell _ _ _ _ (by first | omega | (simp; done) | (simp; omega))))
  · have hb4 : Below w.heap.size w w2 := (Below.setCell hB (by first | omega | (simp; done) | (simp; omega)) _).trans (hb2.mono (by simp [World.size_setCell]; omega))
    exact Below.setCell (Below.setCell (Below.setCell hb4 (by first | omega | (simp; done) | (simp; omega)) _) (by first | omega | (simp; done) | (simp; omega)) _) (by first | omega | (simp; done) | (simp; omega)) _
end Go.Proofs.Ytodjokdaofefdaa
