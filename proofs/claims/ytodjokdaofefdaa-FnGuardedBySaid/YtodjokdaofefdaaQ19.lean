/- Guarded expressions stay guarded; guards that are added: the laws, walked. -/
import Derived.Test.YtodjokdaofefdaaQ7
import Derived.Test.YtodjokdaofefdaaQ16
import Derived.Test.YtodjokdaofefdaaQ18
import Derived.Test.YtodjokdaofefdaaQ2
namespace Go.Proofs.Ytodjokdaofefdaa
set_option linter.unusedSimpArgs false
set_option linter.unusedVariables false
open Go.RowKit

/-- A row of one, laid anew. -/
theorem exW.row1 {d b c : Nat} {w : World} {A : Option Addr} {t : Ex} {fr : Nat × Nat} (hb : w.heap[b]? = some (.cells #[.int .i64 t.k, .int .i64 t.n, .string t.s, .slice A t.ps.length c] 28 fr)) (h : exW d w A t.ps) (s : t.s.size ≤ 9223372036854775807) : exW (d + 1) w (some ⟨b, 0, none⟩) [t] := by
  refine ⟨⟨by simp, fun _ => ⟨b, 0, rfl, fun k hk => ?_⟩⟩, fun _ a ha => ?_⟩
  · match k, hk with
    | 0, _ => exact ⟨_, rfl, ⟨A, c, rfl, h.1, h.2, s⟩, fun j v hv => by
        rw [cell_of_row w b _ _ _ fr hb]
        match j, hv with
        | 0, hv => exact hv
        | 1, hv => exact hv
        | 2, hv => exact hv
        | 3, hv => exact hv
        | n + 4, hv => simp [exHead] at hv⟩
    | n + 1, hk => exact absurd hk (by simp)
  · cases ha
    exact ⟨Nat.zero_le _, (Array.getElem?_eq_some_iff.1 hb).1⟩
set_option maxHeartbeats 1000000 in
theorem implExprSize {d : Nat} {A : Option Addr} {r : Ex} {c : Nat} {w : World} (hU : exW d w A r.ps) (hs : r.s.size ≤ 9223372036854775807) :
    Calls Try.prog 32 #[.agg #[.int .i64 r.k, .int .i64 r.n, .string r.s, .slice A r.ps.length c]] w fun e w' => e = .returned (.int .i64 (szQ r)) ∧ Below w.heap.size w w' := by
  obtain ⟨W, hW⟩ : ∃ W, W = w.alloc (.cells #[.int .i64 r.k, .int .i64 r.n, .string r.s, .slice A r.ps.length c] 28) := ⟨_, rfl⟩
  obtain ⟨g, hg⟩ : ∃ g, g = w.heap.size := ⟨_, rfl⟩
  have hB : Below w.heap.size w W := by rw [hW]; exact below_alloc _ _
  have hb : W.heap[g]? = some (.cells #[.int .i64 r.k, .int .i64 r.n, .string r.s, .slice A r.ps.length c] 28 (0, 0)) := by rw [hW, hg]; exact heap_alloc_new _ _
  have HU := Lib.hid (hU.below hB)
  obtain ⟨b0, b1, b2, b3⟩ := cells4 hb
  have HW := Lib.hid hW
  have HG := Lib.hid hg
  have HB := Lib.hid hb
  obtain ⟨y, hy⟩ : ∃ y, exOk r = y := ⟨_, rfl⟩
  have HQ : Hid (szQ r = if y = true then (szE 7 r : Int) else 0) := Lib.hid (by rw [szQ, hy])
  have HY := Lib.hid hy
  clear hW hg hb hU hy
  go_enter Try.func32, Try.ntmps32
  go_wp2_with fail
  rw [← HW.out, ← HG.out]
  refine (implExprValid HU.out hs).mono ?_
  rintro e w1 ⟨rfl, hb1⟩
  rw [HY.out]
  replace hB := ext_trans hB hb1
  have HU := Lib.hid (HU.out.below hb1)
  clear b0 b1 b2 b3
  obtain ⟨b0, b1, b2, b3⟩ := cells4 (block_below HB.out hb1)
  clear hb1
  cases y
  · go_wp2
    go_ret
    exact ⟨by rw [HQ.out]; rfl, hB⟩
  · go_wp2_with fail
    refine (seQ_all 7 (by omega) _ _ _ _ _ HU.out hs).mono ?_
    rintro e w2 ⟨rfl, hb2⟩
    replace hB := ext_trans hB hb2
    go_wp2
    go_ret
    exact ⟨by rw [HQ.out]; rfl, hB⟩
set_option maxRecDepth 100000 in
set_option maxHeartbeats 4000000 in
theorem lawGuarded {A : Option Addr} {l : List Int} {q : Nat} {w : World} (hC : CodeR w w.heap.size A l) (hq : l.length ≤ q) :
    Calls Try.prog 6 #[.slice A l.length q] w fun e w' => e = .returned (.bool true) ∧ Below w.heap.size w w' := by
  have hl := hC.1
  by_cases hlong : 1048576 < l.length
  · go_enter Try.func6, Try.ntmps6
    go_wp2
    go_ret
    exact ⟨rfl, Below.refl _ _⟩
  · go_enter Try.func6, Try.ntmps6
    go_wp2_with fail
    refine (drawGuarded_d hC hq).mono ?_
    rintro e w1 ⟨m, hm, t, A1, c1, rfl, hsh, hs, hU, hB⟩
    have hcn := shE_cnt m m _ hsh
    have hp : 2 ^ (m + 1) ≤ 2 ^ 7 := Nat.pow_le_pow_right (by decide) (by omega)
    obtain ⟨g, hg⟩ : ∃ g, g = w1.heap.size := ⟨_, rfl⟩
    obtain ⟨W, hW⟩ : ∃ W, W = w1.alloc (.cells #[.int .i64 t.k, .int .i64 t.n, .string t.s, .slice A1 t.ps.length c1] 28) := ⟨_, rfl⟩
    have hb1 : Below w1.heap.size w1 W := by rw [hW]; exact below_alloc _ _
    have hgb : W.heap[g]? = some (.cells #[.int .i64 t.k, .int .i64 t.n, .string t.s, .slice A1 t.ps.length c1] 28 (0, 0)) := by rw [hW, hg]; exact heap_alloc_new _ _
    have HB := Lib.hid (ext_trans hB hb1)
    have HU := Lib.hid (hU.below hb1)
    have HG := Lib.hid hgb
    have HW := Lib.hid hW
    have HGG := Lib.hid hg
    have HCN : Hid (cntS m t.ps ≤ 2097152) := Lib.hid (by omega)
    have HS : Hid (t.s.size ≤ 9223372036854775807) := Lib.hid (by omega)
    obtain ⟨y, hy⟩ : ∃ y, guOk m t = y := ⟨_, rfl⟩
    have HY := Lib.hid hy
    clear hB hU hgb hg hW hb1 hcn hp hy hC hlong
    go_wp2_with fail
    rw [← HW.out, ← HGG.out]
    refine (implGuarded HU.out HS.out).mono ?_
    rintro e w2 ⟨rfl, hb⟩
    rw [HY.out]
    have HB := Lib.hid (ext_trans HB.out hb)
    have HU := Lib.hid (HU.out.below hb)
    have HG := Lib.hid (block_below HG.out hb)
    obtain ⟨b0, b1, b2, b3⟩ := cells4 HG.out
    clear hb
    go_wp2_with fail
    refine (specGuarded HU.out HS.out HCN.out).mono ?_
    rintro e w3 ⟨rfl, hb⟩
    rw [HY.out]
    have HB := Lib.hid (ext_trans HB.out hb)
    have HU := Lib.hid (HU.out.below hb)
    have HG := Lib.hid (block_below HG.out hb)
    clear b0 b1 b2 b3 hb
    -- not
    obtain ⟨gp, hgp⟩ : ∃ n, n = w3.heap.size := ⟨_, rfl⟩
    obtain ⟨W3, hW3⟩ : ∃ W, W = (w3.alloc (.cells #[.int .i64 t.k, .int .i64 t.n, .string t.s, .slice A1 t.ps.length c1] 28)).alloc (.cells #[.int .i64 13, .int .i64 0, .string ⟨#[]⟩, .slice (some ⟨gp, 0, Option.none⟩) 1 1] 28) := ⟨_, rfl⟩
    have hb3 : Below w3.heap.size w3 W3 := by rw [hW3]; (repeat (first | exact Below.refl _ _ | refine ext_alloc ?_ _ | refine Below.setCell ?_ (by simp) _))
    have hpb : W3.heap[gp]? = some (.cells #[.int .i64 t.k, .int .i64 t.n, .string t.s, .slice A1 t.ps.length c1] 28 (0, 0)) := by rw [hW3, hgp]; exact block_below (heap_alloc_new _ _) (below_alloc _ _)
    have hnb : W3.heap[gp + 1]? = some (.cells #[.int .i64 13, .int .i64 0, .string ⟨#[]⟩, .slice (some ⟨gp, 0, Option.none⟩) 1 1] 28 (0, 0)) := by rw [hW3]; exact heap_alloc_at (by rw [hgp]; simp)
    have HU3 := Lib.hid (HU.out.below hb3)
    have HG3 := Lib.hid (block_below HG.out hb3)
    have HN : Hid (exW (m + 1) W3 (some ⟨gp, 0, none⟩) (Ex.nd 13 0 ByteArray.empty [t]).ps) := Lib.hid (exW.row1 hpb (HU.out.below hb3) HS.out)
    have HNB := Lib.hid hnb
    have HB3 := Lib.hid (ext_trans HB.out hb3)
    have HW3 := Lib.hid hW3
    have HGP := Lib.hid hgp
    have HIG : Hid (∀ w', Calls Try.prog 17 #[.agg #[.int .i64 7, .int .i64 0, .string sA, .slice Option.none 0 0]] w' fun e w2 => e = .returned (.bool false) ∧ Below w'.heap.size w' w2) := Lib.hid (fun w' => by
      have h := implGuarded (d := 0) (A := Option.none) (r := .nd 7 0 sA []) (c := 0) (w := w') exS.nil (by decide)
      rw [gu_request] at h
      exact h)
    obtain ⟨b0, b1, b2, b3⟩ := cells4 HG.out
    clear hgp hW3 hb3 hpb hnb
    cases y
    · go_wp2_with fail
      rw [← HGP.out, ← HW3.out]
      refine (HIG.out _).mono ?_
      rintro e w4 ⟨rfl, hb⟩
      have HB := Lib.hid (ext_trans HB3.out hb)
      clear b0 b1 b2 b3 hb
      go_wp2_with fail
      refine (alive_any _).mono ?_
      rintro e w5 ⟨rfl, hb⟩
      have HB := Lib.hid (ext_trans HB.out hb)
      clear hb
      go_wp2
      go_ret
      exact ⟨rfl, HB.out⟩
    · have hok := gu_ok HY.out
      obtain ⟨z, hz⟩ : ∃ z, exOk (Ex.nd 13 0 ByteArray.empty [t]) = z := ⟨_, rfl⟩
      have HV : Hid (∀ w', exW (m + 1) w' (some ⟨gp, 0, none⟩) (Ex.nd 13 0 ByteArray.empty [t]).ps → Calls Try.prog 29 #[.agg #[.int .i64 13, .int .i64 0, .string ⟨#[]⟩, .slice (some ⟨gp, 0, Option.none⟩) 1 1]] w' fun e w2 => e = .returned (.bool z) ∧ Below w'.heap.size w' w2) := Lib.hid (fun w' hh => by
        have h := implExprValid (d := m + 1) (A := some ⟨gp, 0, none⟩) (r := .nd 13 0 ByteArray.empty [t]) (c := 1) (w := w') hh (by show ByteArray.empty.size ≤ _; decide)
        rw [hz] at h
        exact h)
      have HGN : Hid (z = true → ∀ w', exW (m + 1) w' (some ⟨gp, 0, none⟩) (Ex.nd 13 0 ByteArray.empty [t]).ps → Calls Try.prog 17 #[.agg #[.int .i64 13, .int .i64 0, .string ⟨#[]⟩, .slice (some ⟨gp, 0, Option.none⟩) 1 1]] w' fun e w2 => e = .returned (.bool true) ∧ Below w'.heap.size w' w2) := Lib.hid (fun hzt w' hh => by
        have h := implGuarded (d := m + 1) (A := some ⟨gp, 0, none⟩) (r := .nd 13 0 ByteArray.empty [t]) (c := 1) (w := w') hh (by show ByteArray.empty.size ≤ _; decide)
        rw [gu_not HY.out (hz.trans hzt)] at h
        exact h)
      have HOK := Lib.hid hok
      clear hz hok
      obtain ⟨x0, x1, x2, x3⟩ := cells4 HG3.out
      rw [HW3.out, HGP.out] at x0 x1 x2 x3
      go_wp2_with fail
      rw [← HGP.out, ← HW3.out]
      refine (implExprValid HU3.out HS.out).mono ?_
      rintro e w4 ⟨rfl, hb⟩
      rw [HOK.out]
      have HB := Lib.hid (ext_trans HB3.out hb)
      have HN := Lib.hid (HN.out.below hb)
      have HNB := Lib.hid (block_below HNB.out hb)
      obtain ⟨n0, n1, n2, n3⟩ := cells4 HNB.out
      clear b0 b1 b2 b3 x0 x1 x2 x3 hb
      go_wp2_with fail
      refine (HV.out _ HN.out).mono ?_
      rintro e w5 ⟨rfl, hb⟩
      have HB := Lib.hid (ext_trans HB.out hb)
      have HN := Lib.hid (HN.out.below hb)
      have HNB := Lib.hid (block_below HNB.out hb)
      clear n0 n1 n2 n3
      obtain ⟨n0, n1, n2, n3⟩ := cells4 HNB.out
      clear hb
      cases z
      · go_wp2_with fail
        refine (HIG.out _).mono ?_
        rintro e w6 ⟨rfl, hb⟩
        have HB := Lib.hid (ext_trans HB.out hb)
        clear n0 n1 n2 n3 hb
        go_wp2_with fail
        refine (alive_any _).mono ?_
        rintro e w7 ⟨rfl, hb⟩
        have HB := Lib.hid (ext_trans HB.out hb)
        clear hb
        go_wp2
        go_ret
        exact ⟨rfl, HB.out⟩
      · go_wp2_with fail
        refine (HGN.out (by first | trivial | rfl) _ HN.out).mono ?_
        rintro e w6 ⟨rfl, hb⟩
        have HB := Lib.hid (ext_trans HB.out hb)
        clear n0 n1 n2 n3 hb
        go_wp2_with fail
        refine (HIG.out _).mono ?_
        rintro e w6 ⟨rfl, hb⟩
        have HB := Lib.hid (ext_trans HB.out hb)
        clear hb
        go_wp2_with fail
        refine (alive_any _).mono ?_
        rintro e w7 ⟨rfl, hb⟩
        have HB := Lib.hid (ext_trans HB.out hb)
        clear hb
        go_wp2
        go_ret
        exact ⟨rfl, HB.out⟩
set_option maxRecDepth 100000 in
set_option maxHeartbeats 8000000 in
theorem lawGuardedBy {A : Option Addr} {l : List Int} {q : Nat} {w : World} (hC : CodeR w w.heap.size A l) (hq : l.length ≤ q) :
    Calls Try.prog 7 #[.slice A l.length q] w fun e w' => e = .returned (.bool true) ∧ Below w.heap.size w w' := by
  have hl := hC.1
  by_cases hlong : 1048576 < l.length
  · go_enter Try.func7, Try.ntmps7
    go_wp2
    go_ret
    exact ⟨rfl, Below.refl _ _⟩
  · go_enter Try.func7, Try.ntmps7
    go_wp2_with fail
    refine (drawGuardedBy_d hC hq).mono ?_
    rintro e w1 ⟨r, A1, c1, rfl, hsh, hs0, hU, hB⟩
    have hcn := shE_cnt 5 5 _ hsh
    have hs : r.s.size ≤ 9223372036854775807 := by omega
    obtain ⟨o, ho⟩ : ∃ o, o = gbE 5 r := ⟨_, rfl⟩
    obtain ⟨y, hy⟩ : ∃ y, y = gbB 5 r := ⟨_, rfl⟩
    obtain ⟨D, hD⟩ : ∃ D, D = 5 + (gbL 5 r).length := ⟨_, rfl⟩
    have HSP : Hid (∀ (A : Option Addr) (c : Nat) (w : World), exW 5 w A r.ps → Calls Try.prog 24 #[.agg #[.int .i64 r.k, .int .i64 r.n, .string r.s, .slice A r.ps.length c]] w fun e w' => ∃ A c, e = .returned (.tuple #[.agg #[.int .i64 o.k, .int .i64 o.n, .string o.s, .slice A o.ps.length c], .bool y]) ∧ exW D w' A o.ps ∧ Below w.heap.size w w') := Lib.hid (fun A c w h1 => by rw [ho, hy, hD]; exact specGuardedBy h1 hs (by omega))
    have HIM : Hid (∀ (A : Option Addr) (c : Nat) (w : World), exW 5 w A r.ps → Calls Try.prog 25 #[.agg #[.int .i64 r.k, .int .i64 r.n, .string r.s, .slice A r.ps.length c]] w fun e w' => ∃ A c, e = .returned (.tuple #[.agg #[.int .i64 o.k, .int .i64 o.n, .string o.s, .slice A o.ps.length c], .bool y]) ∧ exW D w' A o.ps ∧ Below w.heap.size w w') := Lib.hid (fun A c w h1 => by
      rw [ho, hy, hD]
      refine (implGuardedBy h1 hs).mono ?_
      rintro e w' ⟨A', c', rfl, hT, hb⟩
      exact ⟨A', c', rfl, hT.rdA (Nat.le_refl _), hb⟩)
    have HNO : Hid (y = false → o.k = 0) := Lib.hid (fun h => by rw [ho, gb_no (by rw [← hy]; exact h)]; rfl)
    have HYS : Hid (y = true → ∀ w A, exW D w A o.ps → guOk D o = true ∧ szQ r ≤ szQ o) := Lib.hid (fun h w A hh => by
      rw [hy] at h
      have e : o = gbO 5 r := by rw [ho, gb_yes h]
      rw [e] at hh ⊢
      exact ⟨gb_guarded (exS_in hU) h, gb_size (exS_in hU) (exS_in hh) hD h⟩)
    have HOS : Hid (∀ w A, exW D w A o.ps → o.s.size ≤ 9223372036854775807) := Lib.hid (fun w A h => by
      rw [ho] at h ⊢
      have := (gb_sh h).1
      omega)
    clear ho hy hD hcn hlong hC
    obtain ⟨g, hg⟩ : ∃ g, g = w1.heap.size := ⟨_, rfl⟩
    obtain ⟨W, hW⟩ : ∃ W, W = w1.alloc (.cells #[.int .i64 r.k, .int .i64 r.n, .string r.s, .slice A1 r.ps.length c1] 28) := ⟨_, rfl⟩
    have hb1 : Below w1.heap.size w1 W := by rw [hW]; exact below_alloc _ _
    have hgb : W.heap[g]? = some (.cells #[.int .i64 r.k, .int .i64 r.n, .string r.s, .slice A1 r.ps.length c1] 28 (0, 0)) := by rw [hW, hg]; exact heap_alloc_new _ _
    have HB := Lib.hid (ext_trans hB hb1)
    have HU := Lib.hid (hU.below hb1)
    have HG := Lib.hid hgb
    have HW := Lib.hid hW
    have HGG := Lib.hid hg
    clear hB hU hgb hg hW hb1 hsh hs0
    go_wp2_with fail
    rw [← HW.out, ← HGG.out]
    refine (HIM.out _ _ _ HU.out).mono ?_
    rintro e w2 ⟨A2, c2, rfl, h2, hb⟩
    obtain ⟨g2, hg2⟩ : ∃ g, g = w2.heap.size := ⟨_, rfl⟩
    obtain ⟨W2, hW2⟩ : ∃ W, W = w2.alloc (.cells #[.int .i64 o.k, .int .i64 o.n, .string o.s, .slice A2 o.ps.length c2] 28) := ⟨_, rfl⟩
    have hb2 : Below w2.heap.size w2 W2 := by rw [hW2]; exact below_alloc _ _
    have hgb2 : W2.heap[g2]? = some (.cells #[.int .i64 o.k, .int .i64 o.n, .string o.s, .slice A2 o.ps.length c2] 28 (0, 0)) := by rw [hW2, hg2]; exact heap_alloc_new _ _
    have hb3 := ext_trans hb hb2
    have HB := Lib.hid (ext_trans HB.out hb3)
    have HU := Lib.hid (HU.out.below hb3)
    have HG := Lib.hid (block_below HG.out hb3)
    have HX := Lib.hid (h2.below hb2)
    have HGX := Lib.hid hgb2
    have HW2 := Lib.hid hW2
    have HGG2 := Lib.hid hg2
    have hos := HOS.out _ _ h2
    obtain ⟨b0, b1, b2, b3⟩ := cells4 HG.out
    rw [HW2.out] at b0 b1 b2 b3
    clear h2 hb hb2 hb3 hgb2 hW2 hg2
    go_wp2_with fail
    rw [← HW2.out, ← HGG2.out]
    refine (HSP.out _ _ _ HU.out).mono ?_
    rintro e w3 ⟨A3, c3, rfl, h3, hb⟩
    obtain ⟨g3, hg3⟩ : ∃ g, g = w3.heap.size := ⟨_, rfl⟩
    obtain ⟨W3, hW3⟩ : ∃ W, W = w3.alloc (.cells #[.int .i64 o.k, .int .i64 o.n, .string o.s, .slice A3 o.ps.length c3] 28) := ⟨_, rfl⟩
    have hb3 : Below w3.heap.size w3 W3 := by rw [hW3]; exact below_alloc _ _
    have hgb3 : W3.heap[g3]? = some (.cells #[.int .i64 o.k, .int .i64 o.n, .string o.s, .slice A3 o.ps.length c3] 28 (0, 0)) := by rw [hW3, hg3]; exact heap_alloc_new _ _
    have hb4 := ext_trans hb hb3
    have HB := Lib.hid (ext_trans HB.out hb4)
    have HU := Lib.hid (HU.out.below hb4)
    have HG := Lib.hid (block_below HG.out hb4)
    have HX := Lib.hid (HX.out.below hb4)
    have HGX := Lib.hid (block_below HGX.out hb4)
    have HZ := Lib.hid (h3.below hb3)
    have HGZ := Lib.hid hgb3
    have HW3 := Lib.hid hW3
    have HGG3 := Lib.hid hg3
    clear b0 b1 b2 b3 h3 hb hb3 hb4 hgb3 hW3 hg3
    obtain ⟨x0, x1, x2, x3⟩ := cells4 HGX.out
    rw [HW3.out] at x0 x1 x2 x3
    go_wp2_with fail
    rw [← HW3.out, ← HGG3.out]
    refine (smI_all D _ _ o o _ _ _ HX.out HZ.out).mono ?_
    rintro e w4 ⟨rfl, hb⟩
    rw [sameX_self]
    have HB := Lib.hid (ext_trans HB.out hb)
    have HU := Lib.hid (HU.out.below hb)
    have HG := Lib.hid (block_below HG.out hb)
    have HX := Lib.hid (HX.out.below hb)
    have HGX := Lib.hid (block_below HGX.out hb)
    clear x0 x1 x2 x3 hb HZ HGZ
    obtain ⟨x0, x1, x2, x3⟩ := cells4 HGX.out
    obtain ⟨b0, b1, b2, b3⟩ := cells4 HG.out
    cases y
    · have hk := HNO.out rfl
      rw [hk] at x0
      clear x1 x2 x3 b0 b1 b2 b3
      have HK := Lib.hid hk
      clear hk
      go_wp2_with fail
      refine (alive_any _).mono ?_
      rintro e w5 ⟨rfl, hb⟩
      have HB := Lib.hid (ext_trans HB.out hb)
      clear hb x0
      go_wp2
      go_ret
      exact ⟨rfl, HB.out⟩
    · obtain ⟨hgu, hsz⟩ := HYS.out rfl _ _ HX.out
      have HGU := Lib.hid hgu
      have HSZ := Lib.hid hsz
      have hge : decide (szQ r ≤ szQ o) = true := by simpa using hsz
      have HGE := Lib.hid hge
      clear hgu hsz hge
      go_wp2_with fail
      refine wp_region_kinds2 (fun i wz vz => match i with | 0 => vz = .agg #[.int .i64 o.k, .int .i64 o.n, .string o.s, .slice A2 o.ps.length c2] | 1 => vz = .bool true | 2 => vz = .bool true | 3 => vz = .agg #[.int .i64 o.k, .int .i64 o.n, .string o.s, .slice A2 o.ps.length c2] | 4 => vz = .int .i64 (szQ o) | 5 => vz = .agg #[.int .i64 r.k, .int .i64 r.n, .string r.s, .slice A1 r.ps.length c1] | 6 => vz = .int .i64 (szQ r) | 7 => vz = .bool true | 8 => vz = .bool true | 9 => vz = .bool true | _ => True) (fun _ wz => Below w4.heap.size w4 wz) (fun i w w' => Below w.heap.size w w') (fun _ => Option.none) (by kernel_rfl) (by kernel_rfl) (by kernel_rfl) ?stab10 (ext_drew (Below.refl _ _)) ?all10 ?fin10
      case stab10 =>
        intro i j wa wb v hR hk hne hd _ h2 hT
        match j, hk, hne, hd, h2, hT with
        | 0, hk, hne, hd, h2, hT => exact hT
        | 1, hk, hne, hd, h2, hT => exact hT
        | 2, hk, hne, hd, h2, hT => exact hT
        | 3, hk, hne, hd, h2, hT => exact hT
        | 4, hk, hne, hd, h2, hT => exact hT
        | 5, hk, hne, hd, h2, hT => exact hT
        | 6, hk, hne, hd, h2, hT => exact hT
        | 7, hk, hne, hd, h2, hT => exact hT
        | 8, hk, hne, hd, h2, hT => exact hT
        | 9, hk, hne, hd, h2, hT => exact hT
        | n + 10, _, _, _, _, _ => trivial
      case all10 =>
        refine RAll.cons rfl ?_ (RAll.cons rfl ?_ (RAll.cons rfl ?_ (RAll.guarded 2 42 true rfl (by kernel_rfl) (fun _ _ h => h) ?_ (RAll.guarded 2 42 true rfl (by kernel_rfl) (fun _ _ h => h) ?_ (RAll.guarded 2 42 true rfl (by kernel_rfl) (fun _ _ h => h) ?_ (RAll.guarded 2 42 true rfl (by kernel_rfl) (fun _ _ h => h) ?_ (RAll.guarded 2 42 true rfl (by kernel_rfl) (fun _ _ h => h) ?_ (RAll.cons rfl ?_ (RAll.cons rfl ?_ (RAll.none_))))))))))
        · intro a k wa K Q _ hI hp hK
          have e4 := tmp_of (show a.eval (.tmp 4) = .pointer (some ⟨g2, 0, none⟩) from hp.keep 4 (by kernel_rfl))
          have x0_ := below_cell hI x0
          have x1_ := below_cell hI x1
          have x2_ := below_cell hI x2
          have x3_ := below_cell hI x3
          go_simp
          exact hK _ _ rfl (Below.refl _ _) hI
        · intro a k wa K Q _ hI hp hK
          have e40 := tmp_of (show a.eval (.tmp 40) = .agg #[.int .i64 o.k, .int .i64 o.n, .string o.s, .slice A2 o.ps.length c2] from hp.dep 0 40 (by kernel_rfl))
          go_simp
          refine (implGuarded (HX.out.below hI) hos).mono ?_
          rintro e wb ⟨rfl, hb⟩
          exact hK _ _ (show _ = (.bool true : Value) from by rw [HGU.out]) hb (ext_trans hI hb)
        · intro a k wa K Q _ hI hp hK
          exact op_move _ (.inl rfl) (hK _ _ (hp.dep 1 41 (by kernel_rfl)) (Below.refl _ _) hI)
        · intro a k wa K Q _ hI hp hK
          have e4 := tmp_of (show a.eval (.tmp 4) = .pointer (some ⟨g2, 0, none⟩) from hp.keep 4 (by kernel_rfl))
          have x0_ := below_cell hI x0
          have x1_ := below_cell hI x1
          have x2_ := below_cell hI x2
          have x3_ := below_cell hI x3
          go_simp
          exact hK _ _ rfl (Below.refl _ _) hI
        · intro a k wa K Q _ hI hp hK
          have e43 := tmp_of (show a.eval (.tmp 43) = .agg #[.int .i64 o.k, .int .i64 o.n, .string o.s, .slice A2 o.ps.length c2] from hp.dep 3 43 (by kernel_rfl))
          go_simp
          refine (implExprSize (HX.out.below hI) hos).mono ?_
          rintro e wb ⟨rfl, hb⟩
          exact hK _ _ (rfl) hb (ext_trans hI hb)
        · intro a k wa K Q _ hI hp hK
          have e3 := tmp_of (show a.eval (.tmp 3) = .pointer (some ⟨g, 0, none⟩) from hp.keep 3 (by kernel_rfl))
          have b0_ := below_cell hI b0
          have b1_ := below_cell hI b1
          have b2_ := below_cell hI b2
          have b3_ := below_cell hI b3
          go_simp
          exact hK _ _ rfl (Below.refl _ _) hI
        · intro a k wa K Q _ hI hp hK
          have e45 := tmp_of (show a.eval (.tmp 45) = .agg #[.int .i64 r.k, .int .i64 r.n, .string r.s, .slice A1 r.ps.length c1] from hp.dep 5 45 (by kernel_rfl))
          go_simp
          refine (implExprSize (HU.out.below hI) hs).mono ?_
          rintro e wb ⟨rfl, hb⟩
          exact hK _ _ (rfl) hb (ext_trans hI hb)
        · intro a k wa K Q _ hI hp hK
          have e44 := tmp_of (show a.eval (.tmp 44) = .int .i64 (szQ o) from hp.dep 4 44 (by kernel_rfl))
          have e46 := tmp_of (show a.eval (.tmp 46) = .int .i64 (szQ r) from hp.dep 6 46 (by kernel_rfl))
          go_simp
          exact hK _ _ (by rw [HGE.out]; rfl) (Below.refl _ _) hI
        · intro a k wa K Q _ hI hp hK
          exact op_pick_t _ _ _ rfl (hp.dep 2 42 (by kernel_rfl)) (hK _ _ (hp.dep 7 47 (by kernel_rfl)) (Below.refl _ _) hI)
        · intro a k wa K Q _ hI hp hK
          exact op_move _ (.inr rfl) (hK _ _ (hp.dep 8 48 (by kernel_rfl)) (Below.refl _ _) hI)
      case fin10 =>
        intro f w9 hT hI0
        have hI : Below w4.heap.size w4 w9 := hI0
        have hr9 : (f 9) = .bool true := hT 9 (by decide) rfl rfl
        clear hT hI0
        simp only [putAll, hr9]
        go_simp
        go_wp2
        go_ret
        exact ⟨rfl, ext_trans HB.out hI⟩
end Go.Proofs.Ytodjokdaofefdaa
