/- spec.AddUsage -/
import Derived.Test.YtjiooipoeahdmaaUsG
namespace Go.Proofs.Ytjiooipoeahdmaa
open Go.RowKit

def sadT (B : Nat) (A : Option Addr) (c : Nat) (us : List (Int × Int)) (x y : Int) : Nat → World → Value → Prop
  | 0, w, v => ∃ g, v = .slice (some ⟨g, 0, none⟩) 0 0 ∧ B ≤ g ∧ w.heap[g]? = some (.cells #[] 32 (0, 0))
  | 1, _, v => v = .slice A us.length c
  | 2, w, v => w.ownsRow B 32 2 v us.length (us.flatMap usEnc)
  | 3, _, v => v = .agg #[.int .i64 x, .int .i64 y]
  | 4, w, v => ∃ g, v = .slice (some ⟨g, 0, none⟩) 1 1 ∧ w.heap[g]? = some (.cells #[.int .i64 x, .int .i64 y] 32 (0, 0))
  | 5, w, v => w.ownsRow B 32 2 v (us ++ [(x, y)]).length ((us ++ [(x, y)]).flatMap usEnc)
  | 6, w, v => w.ownsRow B 32 2 v (us ++ [(x, y)]).length ((us ++ [(x, y)]).flatMap usEnc)
  | _, _, _ => True
def sadRel (B : Nat) (i : Nat) (w w' : World) : Prop :=
  if i = 2 then ∃ g, w.heap[g]? = some (.cells #[] 32 (0, 0)) ∧ w.grownBy w' (some g)
  else if i = 5 then Below B w w' else Below w.heap.size w w'
def sadKill : Nat → Option Nat | 0 => some 2 | 2 => some 5 | 4 => some 5 | _ => none
theorem block_lt {w : World} {g : Nat} {o : Obj} (h : w.heap[g]? = some o) : g < w.heap.size := (Array.getElem?_eq_some_iff.1 h).1
theorem empty_own {B g : Nat} {w : World} {e : TypeId} {sz : Nat} (hB : B ≤ g) (h : w.heap[g]? = some (.cells #[] e (0, 0))) : w.ownsRow B e sz (.slice (some ⟨g, 0, none⟩) 0 0) 0 [] :=
  ⟨by simp, .inr ⟨g, 0, #[], rfl, hB, h, Nat.le_refl _, by simp [maxLen], by simp, by simp⟩⟩

set_option maxHeartbeats 1000000 in
theorem specAddUsage {A : Option Addr} {us : List (Int × Int)} {c : Nat} {x y within most : Int} {w : World} (hU : Us w A us) (hn : us.length ≤ 2097152) :
    Calls Try.prog 19 #[.slice A us.length c, .agg #[.int .i64 x, .int .i64 y], .int .i64 within, .int .i64 most] w (AddPost w (addU us (x, y) within most)) := by
  have hB := below_alloc w (.cells #[.int .i64 x, .int .i64 y] 32)
  have q0 := box_cell w #[.int .i64 x, .int .i64 y] 32 0 (.int .i64 x) rfl
  have q1 := box_cell w #[.int .i64 x, .int .i64 y] 32 1 (.int .i64 y) rfl
  replace hU := hU.below hB
  cases g1 : usOk us
  · go_enter Try.func19, Try.ntmps19
    go_wp2_with fail
    refine (specUsagesValid hU).mono ?_
    rintro e w1 ⟨rfl, hBc⟩
    replace hB := ext_trans hB hBc
    replace hU := hU.below hBc
    replace q0 := below_cell hBc q0
    replace q1 := below_cell hBc q1
    clear hBc
    go_wp2
    go_ret2
    exact AddPost.of (l := []) (b := false) (by simp [addU, g1]) (by simpa using empty_own hB.size (heap_alloc_new _ _)) (ext_alloc hB _)
  · cases g2 : inB within 1 1000
    · go_enter Try.func19, Try.ntmps19
      go_wp2_with fail
      refine (specUsagesValid hU).mono ?_
      rintro e w1 ⟨rfl, hBc⟩
      replace hB := ext_trans hB hBc
      replace hU := hU.below hBc
      replace q0 := below_cell hBc q0
      replace q1 := below_cell hBc q1
      clear hBc
      go_wp2_with fail
      refine (l1In_any _ _ _ _).mono ?_
      rintro e w2 ⟨rfl, hBc⟩
      replace hB := ext_trans hB hBc
      replace hU := hU.below hBc
      replace q0 := below_cell hBc q0
      replace q1 := below_cell hBc q1
      clear hBc
      go_wp2
      go_ret2
      exact AddPost.of (l := []) (b := false) (by simp [addU, g2]) (by simpa using empty_own hB.size (heap_alloc_new _ _)) (ext_alloc hB _)
    · cases g3 : inB most 0 1000000
      · go_enter Try.func19, Try.ntmps19
        go_wp2_with fail
        refine (specUsagesValid hU).mono ?_
        rintro e w1 ⟨rfl, hBc⟩
        replace hB := ext_trans hB hBc
        replace hU := hU.below hBc
        replace q0 := below_cell hBc q0
        replace q1 := below_cell hBc q1
        clear hBc
        go_wp2_with fail
        refine (l1In_any _ _ _ _).mono ?_
        rintro e w2 ⟨rfl, hBc⟩
        replace hB := ext_trans hB hBc
        replace hU := hU.below hBc
        replace q0 := below_cell hBc q0
        replace q1 := below_cell hBc q1
        clear hBc
        go_wp2_with fail
        refine (l1In_any _ _ _ _).mono ?_
        rintro e w3 ⟨rfl, hBc⟩
        replace hB := ext_trans hB hBc
        replace hU := hU.below hBc
        replace q0 := below_cell hBc q0
        replace q1 := below_cell hBc q1
        clear hBc
        go_wp2
        go_ret2
        exact AddPost.of (l := []) (b := false) (by simp [addU, g3]) (by simpa using empty_own hB.size (heap_alloc_new _ _)) (ext_alloc hB _)
      · have HG1 := Lib.hid g1
        have HG2 := Lib.hid g2
        have HG3 := Lib.hid g3
        go_enter Try.func19, Try.ntmps19
        go_wp2_with fail
        refine (specUsagesValid hU).mono ?_
        rintro e w1 ⟨rfl, hBc⟩
        replace hB := ext_trans hB hBc
        replace hU := hU.below hBc
        replace q0 := below_cell hBc q0
        replace q1 := below_cell hBc q1
        clear hBc
        go_wp2_with fail
        refine (l1In_any _ _ _ _).mono ?_
        rintro e w2 ⟨rfl, hBc⟩
        replace hB := ext_trans hB hBc
        replace hU := hU.below hBc
        replace q0 := below_cell hBc q0
        replace q1 := below_cell hBc q1
        clear hBc
        go_wp2_with fail
        refine (l1In_any _ _ _ _).mono ?_
        rintro e w3 ⟨rfl, hBc⟩
        replace hB := ext_trans hB hBc
        replace hU := hU.below hBc
        replace q0 := below_cell hBc q0
        replace q1 := below_cell hBc q1
        clear hBc
        go_wp2
        replace hB := hB
        refine wp_region_kinds (sadT w3.heap.size A c us x y) (addInv w3) (sadRel w3.heap.size) sadKill (by kernel_rfl) (by kernel_rfl) (by kernel_rfl) ?stab (ext_drew (Below.refl _ _)) ?all ?fin
        case stab =>
          intro i j wa wb v hR hk hne hd hc hT
          match j, hk, hne, hd, hc, hT with
          | 1, _, _, _, _, hT => exact hT
          | 3, _, _, _, _, hT => exact hT
          | 0, hk, _, _, hc, hT =>
            rw [sadRel, if_neg (by rintro rfl; exact hk rfl)] at hR
            obtain ⟨g, hv, hBg, hg⟩ := hT
            by_cases h5 : i = 5
            · subst h5
              exact Bool.noConfusion ((show depB _ 5 2 = true from by kernel_rfl).symm.trans (hc 2 rfl))
            · rw [if_neg h5] at hR
              exact ⟨g, hv, hBg, (hR.block g (block_lt hg)).trans hg⟩
          | 2, hk, hne, _, _, hT =>
            rw [sadRel, if_neg (fun e => hne e.symm), if_neg (by rintro rfl; exact hk rfl)] at hR
            exact own_below hT hR
          | 4, hk, _, _, _, hT =>
            obtain ⟨g, hv, hg⟩ := hT
            by_cases h2 : i = 2
            · subst h2
              rw [sadRel, if_pos rfl] at hR
              obtain ⟨g2, hg2, hgr⟩ := hR
              exact ⟨g, hv, (hgr.block g (block_lt hg) (by rintro ⟨⟩; rw [hg] at hg2; simp at hg2)).trans hg⟩
            · rw [sadRel, if_neg h2, if_neg (by rintro rfl; exact hk rfl)] at hR
              exact ⟨g, hv, (hR.block g (block_lt hg)).trans hg⟩
          | 5, _, hne, hd, _, hT =>
            rw [sadRel, if_neg (by rintro rfl; exact Bool.noConfusion ((show depB _ 5 2 = true from by kernel_rfl).symm.trans hd)), if_neg (fun e => hne e.symm)] at hR
            exact own_below hT hR
          | 6, _, _, hd, _, hT =>
            rw [sadRel, if_neg (by rintro rfl; exact Bool.noConfusion ((show depB _ 6 2 = true from by kernel_rfl).symm.trans hd)), if_neg (by rintro rfl; exact Bool.noConfusion ((show depB _ 6 5 = true from by kernel_rfl).symm.trans hd))] at hR
            exact own_below hT hR
          | n + 7, _, _, _, _, _ => trivial
        case all =>
          refine RAll.cons rfl ?_ (RAll.cons rfl ?_ (RAll.cons rfl ?_ (RAll.cons rfl ?_ (RAll.cons rfl ?_ (RAll.cons rfl ?_ (RAll.cons rfl ?_ RAll.none_))))))
          · intro a k wa K Q _ hI hp hK
            go_simp
            exact hK _ _ ⟨_, rfl, hI.size, heap_alloc_new _ _⟩ (below_alloc _ _) (ext_alloc hI _)
          · intro a k wa K Q _ hI hp hK
            exact op_move _ (.inl rfl) (hK _ _ (hp.keep 0 (by kernel_rfl)) (Below.refl _ _) hI)
          · intro a k wa K Q _ hI hp hK
            obtain ⟨g, e25, hBg, hg⟩ : ∃ g, a.eval (.tmp 25) = .slice (some ⟨g, 0, none⟩) 0 0 ∧ w3.heap.size ≤ g ∧ wa.heap[g]? = some (.cells #[] 32 (0, 0)) := hp.dep 0 25 (by kernel_rfl)
            have e26 : a.eval (.tmp 26) = .slice A us.length c := hp.dep 1 26 (by kernel_rfl)
            refine op_append_rd (enc := usEnc) (.tmp 25) (.tmp 26) w3.heap.size 25 32 _ 2 16 rfl Try.underlying25 Try.infoUsage rfl (by decide) (fun _ => rfl) usEnc_one e25 (empty_own hBg hg) e26 (hU.below hI) (by omega) (by omega) hI.size ?_
            intro v' wb ho hgr _
            exact hK _ _ (by simpa [sadT] using ho) ⟨g, hg, hgr⟩ (ext_grown hI hgr (by intro k hk; cases hk; exact hBg))
          · intro a k wa K Q _ hI hp hK
            have e5 := tmp_of (show a.eval (.tmp 5) = .pointer (some ⟨w.heap.size, 0, none⟩) from hp.keep 5 (by kernel_rfl))
            have c0 := below_cell hI q0
            have c1 := below_cell hI q1
            go_simp
            exact hK _ _ rfl (Below.refl _ _) hI
          · intro a k wa K Q _ hI hp hK
            have e28 := tmp_of (show a.eval (.tmp 28) = .agg #[.int .i64 x, .int .i64 y] from hp.dep 3 28 (by kernel_rfl))
            go_simp
            exact hK _ _ ⟨_, rfl, heap_alloc_new _ _⟩ (below_alloc _ _) (ext_alloc hI _)
          · intro a k wa K Q _ hI hp hK
            have t27 : wa.ownsRow w3.heap.size 32 2 (a.eval (.tmp 27)) us.length (us.flatMap usEnc) := hp.dep 2 27 (by kernel_rfl)
            obtain ⟨g, e29, hgb⟩ : ∃ g, a.eval (.tmp 29) = .slice (some ⟨g, 0, none⟩) 1 1 ∧ wa.heap[g]? = some (.cells #[.int .i64 x, .int .i64 y] 32 (0, 0)) := hp.dep 4 29 (by kernel_rfl)
            refine op_append_rd (enc := usEnc) (l := [(x, y)]) (.tmp 27) (.tmp 29) w3.heap.size 25 32 _ 2 16 rfl Try.underlying25 Try.infoUsage rfl (by decide) (fun _ => rfl) usEnc_one rfl t27 e29 (rd_block (fun _ => rfl) hgb (by rfl)) (by simp; omega) (by simp; omega) hI.size ?_
            intro v' wb ho hg _
            have hb : Below w3.heap.size wa wb := grown_below hg hI.size (fun k hk => (t27.lt k hk).1)
            exact hK _ _ (by simpa [sadT] using ho) hb (hI.trans hb)
          · intro a k wa K Q _ hI hp hK
            exact op_move _ (.inr rfl) (hK _ _ (hp.dep 5 30 (by kernel_rfl)) (Below.refl _ _) hI)
        case fin =>
          intro f w5 hT hI0
          obtain ⟨us2, hus2⟩ : ∃ us2, us2 = us ++ [(x, y)] := ⟨_, rfl⟩
          have ho5 : w5.ownsRow w3.heap.size 32 2 (f 6) us2.length (us2.flatMap usEnc) := by rw [hus2]; exact hT 6 (by decide) rfl rfl
          have hI : Below w3.heap.size w3 w5 := hI0
          have hlt2 : us2.length ≤ 2097153 := by rw [hus2]; simp; omega
          obtain ⟨gg, cap, hv5, _⟩ := ho5.form (by rw [hus2]; simp)
          rw [hv5] at ho5
          have hx : usOk us2 = true → 0 ≤ x ∧ x ≤ 1000 := fun h => by
            have := (usOk_bounds h (k := us.length) (by rw [hus2]; simp)).1
            rw [hus2] at this
            simpa [uAt] using this
          have HX := Lib.hid hx
          have HU2 := Lib.hid hus2
          clear hT hI0 hx hus2
          have hsz3 := hB.size
          replace hB := ext_trans hB hI
          replace q0 := below_cell hI q0
          replace q1 := below_cell hI q1
          replace hU := hU.below hI
          have hsz := hI.size
          clear hI
          simp only [putAll, hv5]
          go_simp
          clear hv5
          cases g4 : usOk us2
          · skip
            go_wp2_with fail
            refine (specUsagesValid (us_own rfl (by omega) ho5)).mono ?_
            rintro e w1 ⟨rfl, hBc⟩
            replace hB := ext_trans hB hBc
            replace hU := hU.below hBc
            replace q0 := below_cell hBc q0
            replace q1 := below_cell hBc q1
            replace ho5 := own_below ho5 hBc
            clear hBc
            go_wp2_with (at_builtin; refine wpList_append_rd (enc := usEnc) (v := .slice (some ⟨w1.heap.size, 0, none⟩) 0 0) rfl (.tmp 43) (.tmp 44) w.heap.size 25 32 _ 2 16 rfl Try.underlying25 Try.infoUsage rfl (by decide) (fun _ => rfl) usEnc_one rfl (empty_own hB.size (heap_alloc_new _ _)) rfl (hU.below (below_alloc _ _)) (by omega) (by omega) (ext_alloc hB _).size ?_; intro v6 w6 ho6 hg6 _)
            replace hB := ext_grown (ext_alloc hB _) hg6 (by intro k hk; cases hk; exact hB.size)
            go_ret2
            exact AddPost.of (l := us) (b := false) (by simp [addU, HG1.out, HG2.out, HG3.out, ← HU2.out, g4]) (by simpa using ho6) hB
          · have HG4 := Lib.hid g4
            have HV : Hid (usWithin us2 within x = usUsed us2 within x) := Lib.hid (by simp [usWithin, HG4.out, HG2.out, inB_true.2 (HX.out HG4.out)])
            by_cases g5 : usUsed us2 within x ≤ most
            · skip
              go_wp2_with fail
              refine (specUsagesValid (us_own rfl (by omega) ho5)).mono ?_
              rintro e w1 ⟨rfl, hBc⟩
              replace hB := ext_trans hB hBc
              replace hU := hU.below hBc
              replace q0 := below_cell hBc q0
              replace q1 := below_cell hBc q1
              replace ho5 := own_below ho5 hBc
              clear hBc
              go_wp2_with fail
              refine (specUsedWithin (us_own rfl (by omega) ho5)).mono ?_
              rintro e w2 ⟨rfl, hBc⟩
              replace hB := ext_trans hB hBc
              replace hU := hU.below hBc
              replace q0 := below_cell hBc q0
              replace q1 := below_cell hBc q1
              replace ho5 := own_below ho5 hBc
              clear hBc
              rw [HV.out]
              go_wp2
              go_ret2
              exact AddPost.of (by simp [addU, HG1.out, HG2.out, HG3.out, ← HU2.out, HG4.out, g5]) (own_lower ho5 hsz3) hB
            · skip
              go_wp2_with fail
              refine (specUsagesValid (us_own rfl (by omega) ho5)).mono ?_
              rintro e w1 ⟨rfl, hBc⟩
              replace hB := ext_trans hB hBc
              replace hU := hU.below hBc
              replace q0 := below_cell hBc q0
              replace q1 := below_cell hBc q1
              replace ho5 := own_below ho5 hBc
              clear hBc
              go_wp2_with fail
              refine (specUsedWithin (us_own rfl (by omega) ho5)).mono ?_
              rintro e w2 ⟨rfl, hBc⟩
              replace hB := ext_trans hB hBc
              replace hU := hU.below hBc
              replace q0 := below_cell hBc q0
              replace q1 := below_cell hBc q1
              replace ho5 := own_below ho5 hBc
              clear hBc
              rw [HV.out]
              go_wp2_with (at_builtin; refine wpList_append_rd (enc := usEnc) (v := .slice (some ⟨w2.heap.size, 0, none⟩) 0 0) rfl (.tmp 43) (.tmp 44) w.heap.size 25 32 _ 2 16 rfl Try.underlying25 Try.infoUsage rfl (by decide) (fun _ => rfl) usEnc_one rfl (empty_own hB.size (heap_alloc_new _ _)) rfl (hU.below (below_alloc _ _)) (by omega) (by omega) (ext_alloc hB _).size ?_; intro v6 w6 ho6 hg6 _)
              replace hB := ext_grown (ext_alloc hB _) hg6 (by intro k hk; cases hk; exact hB.size)
              go_ret2
              exact AddPost.of (l := us) (b := false) (by simp [addU, HG1.out, HG2.out, HG3.out, ← HU2.out, HG4.out]; omega) (by simpa using ho6) hB
end Go.Proofs.Ytjiooipoeahdmaa
