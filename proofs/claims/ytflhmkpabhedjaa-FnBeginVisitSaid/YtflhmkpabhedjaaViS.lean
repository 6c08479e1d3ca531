/- FnBeginVisit, walked. -/
import Derived.Test.YtflhmkpabhedjaaViN
import Derived.Test.YtflhmkpabhedjaaViI
import Derived.Test.YtflhmkpabhedjaaViJ
import Derived.Test.YtflhmkpabhedjaaViQ
namespace Go.Proofs.Ytflhmkpabhedjaa
open Go.RowKit

set_option maxRecDepth 100000 in
set_option maxHeartbeats 4000000 in
theorem lawBeginVisit {A : Option Addr} {l : List Int} {c : Nat} {w : World} (hC : CodeR w w.heap.size A l) (hc : l.length ≤ c) :
    Calls Try.prog 10 #[.slice A l.length c] w fun e w' => e = .returned (.bool true) ∧ Below w.heap.size w w' := by
  by_cases h : (1048576 : Int) < l.length
  · go_enter Try.func10, Try.ntmps10
    go_wp2
    go_ret
    exact ⟨rfl, Below.refl _ _⟩
  · go_enter Try.func10, Try.ntmps10
    go_wp2_with fail
    refine (DrawBeginVisit_d hC hc).mono ?_
    rintro e w1 ⟨us, _, long, idle, who, now, rfl, hn, ⟨hl0, hl1⟩, ⟨hi0, hi1⟩, ⟨hn0, hn1⟩, ⟨Au, cu, rfl, ho⟩, hB⟩
    have q0 := box_cell w1 #[.int .i64 long, .int .i64 idle] 27 0 (.int .i64 long) rfl
    have q1 := box_cell w1 #[.int .i64 long, .int .i64 idle] 27 1 (.int .i64 idle) rfl
    have hbl := below_alloc w1 (.cells #[.int .i64 long, .int .i64 idle] 27)
    have hU : viR _ Au us := (viR.own rfl (by omega) ho).below hbl
    obtain ⟨X, hX⟩ : ∃ X, X = w1.alloc (.cells #[.int .i64 long, .int .i64 idle] 27) := ⟨_, rfl⟩
    obtain ⟨g, hg⟩ : ∃ g, g = w1.heap.size := ⟨_, rfl⟩
    rw [← hX] at q0 q1 hU hbl
    rw [← hg] at q0 q1
    replace hB := ext_trans hB hbl
    obtain ⟨r1, hr1⟩ : ∃ r, r = (viBegin long idle us who now).1 := ⟨_, rfl⟩
    obtain ⟨r2, hr2⟩ : ∃ r, r = (viBegin long idle us who now).2 := ⟨_, rfl⟩
    have hr1l : r1.length ≤ us.length + 1 := by rw [hr1]; exact viBegin_len _ _ _ _ _
    have hno : r2 = false → r1.length ≤ us.length := fun e => by rw [hr1]; exact viBegin_no (by rw [← hr2, e])
    have hyes : r2 = true → ∃ r, r1 = r ++ [(who, now, now)] ∧ viOk long idle r1 = true ∧ viEnd long idle r1 now = r1 := fun e => by
      obtain ⟨r, h1, _, h3, h4⟩ := viBegin_yes (l := us) (long := long) (idle := idle) (who := who) (now := now) (by rw [← hr2, e])
      rw [← hr1] at h1
      rw [← h1] at h3 h4
      exact ⟨r, h1, h3, h4⟩
    have HX := Lib.hid hX
    have HG := Lib.hid hg
    have HR := Lib.hid hr1
    have HR2 := Lib.hid hr2
    have HN := Lib.hid hno
    have HY := Lib.hid hyes
    clear hX hg hbl ho hr1 hr2 hno hyes
    go_wp2_with fail
    rw [← HX.out, ← HG.out]
    refine (implBeginVisit hU).mono ?_
    rintro e w2 ⟨A6, c6, rfl, ho6, hBc⟩
    rw [← HR.out] at ho6 ⊢
    rw [← HR2.out]
    replace hB := ext_trans hB hBc
    replace q0 := below_cell hBc q0
    replace q1 := below_cell hBc q1
    replace hU := hU.below hBc
    clear hBc
    go_wp2_with fail
    refine (specBeginVisit hU).mono ?_
    rintro e w3 ⟨A7, c7, rfl, ho7, hBc⟩
    rw [← HR.out] at ho7 ⊢
    rw [← HR2.out]
    replace hB := ext_trans hB hBc
    replace q0 := below_cell hBc q0
    replace q1 := below_cell hBc q1
    replace ho6 := own_below ho6 hBc
    have hX : viR w3 A6 r1 := viR.own rfl (by omega) ho6
    have hY : viR w3 A7 r1 := viR.own rfl (by omega) ho7
    clear hBc hU ho6 ho7 HR
    go_wp2_with fail
    refine (sameVisits_any hX hY).mono ?_
    rintro e w4 ⟨rfl, hBc⟩
    replace hB := ext_trans hB hBc
    replace hX := hX.below hBc
    replace q0 := below_cell hBc q0
    replace q1 := below_cell hBc q1
    clear hBc
    clear hY
    rw [sameB_self]
    cases r2
    · have hle : (r1.length : Int) ≤ us.length := by have := HN.out rfl; omega
      clear hX q0 q1
      go_wp2_with fail
      refine (alive_any _).mono ?_
      rintro e w5 ⟨rfl, hBc⟩
      replace hB := ext_trans hB hBc
      clear hBc
      go_wp2
      go_ret
      exact ⟨rfl, hB⟩
    · obtain ⟨r, h1, h3, h4⟩ := HY.out rfl
      have hlen : r1.length = r.length + 1 := by rw [h1]; simp
      have hu0 : vi0 r1 (r1.length - 1) = who := by rw [hlen, h1]; simp [vi0]
      have hu1 : vi1 r1 (r1.length - 1) = now := by rw [hlen, h1]; simp [vi1]
      have hu2 : vi2 r1 (r1.length - 1) = now := by rw [hlen, h1]; simp [vi2]
      have hpos : 0 < r1.length := by omega
      obtain ⟨b, off, rfl, hcl⟩ := hX.cells hpos
      obtain ⟨d0, d1, d2⟩ := hcl (r1.length - 1) (by omega)
      rw [hu0] at d0
      rw [hu1] at d1
      rw [hu2] at d2
      have H3 := Lib.hid h3
      have H4 := Lib.hid h4
      have hc3 : ∀ (c : Nat) (w : World), viR w (some ⟨b, off, none⟩) r1 → Calls Try.prog 15 #[.agg #[.int .i64 long, .int .i64 idle], .slice (some ⟨b, off, none⟩) r1.length c] w fun e w' => e = .returned (.bool true) ∧ Below w.heap.size w w' := fun c w hX => by
        have := implVisitsValid (c := c) (long := long) (idle := idle) hX
        rwa [H3.out] at this
      have HC3 := Lib.hid hc3
      clear h1 h3 h4 hlen hu0 hu1 hu2 hcl hc3
      go_wp2_with fail
      refine (HC3.out _ _ hX).mono ?_
      rintro e w5 ⟨rfl, hBc⟩
      replace hB := ext_trans hB hBc
      replace hX := hX.below hBc
      replace q0 := below_cell hBc q0
      replace q1 := below_cell hBc q1
      replace d0 := below_cell hBc d0
      replace d1 := below_cell hBc d1
      replace d2 := below_cell hBc d2
      clear hBc
      go_wp2_with fail
      refine (implEndVisits hX).mono ?_
      rintro e w6 ⟨A8, c8, rfl, ho8, hBc⟩
      rw [H4.out] at ho8 ⊢
      replace hB := ext_trans hB hBc
      replace hX := hX.below hBc
      have hY : viR w6 A8 r1 := viR.own rfl (by omega) ho8
      clear hBc ho8 d0 d1 d2 q0 q1
      go_wp2_with fail
      refine (sameVisits_any hY hX).mono ?_
      rintro e w7 ⟨rfl, hBc⟩
      replace hB := ext_trans hB hBc
      clear hBc
      rw [sameB_self]
      go_wp2
      go_ret
      exact ⟨rfl, hB⟩
end Go.Proofs.Ytflhmkpabhedjaa
