/- AddUsage -/
import Derived.Test.YtjiooipoeahdmaaUsE
import Derived.Test.YtjiooipoeahdmaaUsC
import Derived.Test.YtjiooipoeahdmaaUsD
import Derived.Test.YtjiooipoeahdmaaReg
import Derived.Deep.DeepMust
namespace Go.Proofs.Ytjiooipoeahdmaa
open Go.RowKit

def addU (us : List (Int × Int)) (u : Int × Int) (within most : Int) : List (Int × Int) × Bool :=
  if usOk us && inB within 1 1000 && inB most 0 1000000 then
    (if usOk (us ++ [u]) && decide (usUsed (us ++ [u]) within u.1 ≤ most) then (us ++ [u], true) else (us, false))
  else ([], false)

theorem usEnc_one (a : Int × Int) : ∀ u ∈ usEnc a, u.oneCell' = true := by intro u hu; simp [usEnc] at hu; rcases hu with rfl | rfl <;> rfl

/-- What is known of the row that 'append' of all, then of one more, leaves. -/
def addT (B : Nat) (A : Option Addr) (c : Nat) (us : List (Int × Int)) (x y : Int) : Nat → World → Value → Prop
  | 0, _, v => v = .slice A us.length c
  | 1, w, v => w.ownsRow B 32 2 v us.length (us.flatMap usEnc)
  | 2, _, v => v = .agg #[.int .i64 x, .int .i64 y]
  | 3, w, v => ∃ g, v = .slice (some ⟨g, 0, none⟩) 1 1 ∧ w.heap[g]? = some (.cells #[.int .i64 x, .int .i64 y] 32 (0, 0))
  | 4, w, v => w.ownsRow B 32 2 v (us ++ [(x, y)]).length ((us ++ [(x, y)]).flatMap usEnc)
  | 5, w, v => w.ownsRow B 32 2 v (us ++ [(x, y)]).length ((us ++ [(x, y)]).flatMap usEnc)
  | _, _, _ => True
def addRel (B : Nat) (i : Nat) (w w' : World) : Prop := Below (if i = 4 then B else w.heap.size) w w'
def addInv (W : World) (_ : Nat) (w : World) : Prop := Below W.heap.size W w
def addKill : Nat → Option Nat | 1 => some 4 | 3 => some 4 | _ => none

abbrev AddPost (w : World) (r : List (Int × Int) × Bool) (e : Ending) (w' : World) : Prop := TupPost 32 2 usEnc w r.1 r.2 e w'
theorem AddPost.of {w w' : World} {r : List (Int × Int) × Bool} {l : List (Int × Int)} {b : Bool} {v : Value} (h : r = (l, b)) (ho : w'.ownsRow w.heap.size 32 2 v l.length (l.flatMap usEnc)) (hB : Below w.heap.size w w') : AddPost w r (.returned (.tuple #[v, .bool b])) w' := by
  subst h; exact TupPost.of rfl rfl ho hB
theorem AddPost.no {w w' : World} {r : List (Int × Int) × Bool} (h : r = ([], false)) (hB : Below w.heap.size w w') : AddPost w r (.returned (.tuple #[.slice none 0 0, .bool false])) w' :=
  AddPost.of h (World.ownsRow_nil _ _ _ _) hB

set_option maxHeartbeats 1000000 in
theorem implAddUsage {A : Option Addr} {us : List (Int × Int)} {c : Nat} {x y within most : Int} {w : World} (hU : Us w A us) (hn : us.length ≤ 2097152) :
    Calls Try.prog 21 #[.slice A us.length c, .agg #[.int .i64 x, .int .i64 y], .int .i64 within, .int .i64 most] w (AddPost w (addU us (x, y) within most)) := by
  have hB := below_alloc w (.cells #[.int .i64 x, .int .i64 y] 32)
  have q0 := box_cell w #[.int .i64 x, .int .i64 y] 32 0 (.int .i64 x) rfl
  have q1 := box_cell w #[.int .i64 x, .int .i64 y] 32 1 (.int .i64 y) rfl
  replace hU := hU.below hB
  cases g1 : usOk us
  · go_enter Try.func21, Try.ntmps21
    go_wp2_with fail
    refine (implUsagesValid hU).mono ?_
    rintro e w1 ⟨rfl, hBc⟩
    replace hB := ext_trans hB hBc
    replace hU := hU.below hBc
    replace q0 := below_cell hBc q0
    replace q1 := below_cell hBc q1
    clear hBc
    go_wp2
    go_ret2
    exact AddPost.no (by simp [addU, g1]) hB
  · cases g2 : inB within 1 1000
    · go_enter Try.func21, Try.ntmps21
      go_wp2_with fail
      refine (implUsagesValid hU).mono ?_
      rintro e w1 ⟨rfl, hBc⟩
      replace hB := ext_trans hB hBc
      replace hU := hU.below hBc
      replace q0 := below_cell hBc q0
      replace q1 := below_cell hBc q1
      clear hBc
      go_wp2_with fail
      refine (in_any _ _ _ _).mono ?_
      rintro e w2 ⟨rfl, hBc⟩
      replace hB := ext_trans hB hBc
      replace hU := hU.below hBc
      replace q0 := below_cell hBc q0
      replace q1 := below_cell hBc q1
      clear hBc
      go_wp2
      go_ret2
      exact AddPost.no (by simp [addU, g2]) hB
    · cases g3 : inB most 0 1000000
      · go_enter Try.func21, Try.ntmps21
        go_wp2_with fail
        refine (implUsagesValid hU).mono ?_
        rintro e w1 ⟨rfl, hBc⟩
        replace hB := ext_trans hB hBc
        replace hU := hU.below hBc
        replace q0 := below_cell hBc q0
        replace q1 := below_cell hBc q1
        clear hBc
        go_wp2_with fail
        refine (in_any _ _ _ _).mono ?_
        rintro e w2 ⟨rfl, hBc⟩
        replace hB := ext_trans hB hBc
        replace hU := hU.below hBc
        replace q0 := below_cell hBc q0
        replace q1 := below_cell hBc q1
        clear hBc
        go_wp2_with fail
        refine (in_any _ _ _ _).mono ?_
        rintro e w3 ⟨rfl, hBc⟩
        replace hB := ext_trans hB hBc
        replace hU := hU.below hBc
        replace q0 := below_cell hBc q0
        replace q1 := below_cell hBc q1
        clear hBc
        go_wp2
        go_ret2
        exact AddPost.no (by simp [addU, g3]) hB
      · have HG1 := Lib.hid g1
        have HG2 := Lib.hid g2
        have HG3 := Lib.hid g3
        go_enter Try.func21, Try.ntmps21
        go_wp2_with fail
        refine (implUsagesValid hU).mono ?_
        rintro e w1 ⟨rfl, hBc⟩
        replace hB := ext_trans hB hBc
        replace hU := hU.below hBc
        replace q0 := below_cell hBc q0
        replace q1 := below_cell hBc q1
        clear hBc
        go_wp2_with fail
        refine (in_any _ _ _ _).mono ?_
        rintro e w2 ⟨rfl, hBc⟩
        replace hB := ext_trans hB hBc
        replace hU := hU.below hBc
        replace q0 := below_cell hBc q0
        replace q1 := below_cell hBc q1
        clear hBc
        go_wp2_with fail
        refine (in_any _ _ _ _).mono ?_
        rintro e w3 ⟨rfl, hBc⟩
        replace hB := ext_trans hB hBc
        replace hU := hU.below hBc
        replace q0 := below_cell hBc q0
        replace q1 := below_cell hBc q1
        clear hBc
        go_wp2_with (at_builtin; go_must (refine wpList_append_rd (enc := usEnc) (v := .slice none 0 0) rfl (.const (.slice none 0 0)) (.tmp 25) w.heap.size 25 32 _ 2 16 rfl Try.underlying25 Try.infoUsage rfl (by decide) (fun _ => rfl) usEnc_one rfl (World.ownsRow_nil _ _ _ _) rfl hU (by omega) (by omega) hB.size ?_); intro v1 w4 ho1 hg1 hs1)
        simp only [Nat.zero_add, List.nil_append] at ho1
        have hB4 : Below w.heap.size w w4 := ext_grown hB hg1 (by intro k hk; cases hk)
        have hb34 : Below w3.heap.size w3 w4 := ext_grown (Below.refl _ _) hg1 (by simp [Value.ownBlock])
        replace hU := hU.below hb34
        replace q0 := below_cell hb34 q0
        replace q1 := below_cell hb34 q1
        clear hg1 hs1 hB hb34
        refine wp_region_kinds (addT w4.heap.size A c us x y) (addInv w4) (addRel w4.heap.size) addKill (by kernel_rfl) (by kernel_rfl) (by kernel_rfl) ?stab (ext_drew (Below.refl _ _)) ?all ?fin
        case stab =>
          intro i j wa wb v hR hk hne hd _ hT
          have hBB : Below w4.heap.size wa wb ∨ Below wa.heap.size wa wb := by
            unfold addRel at hR
            split at hR
            · exact .inl hR
            · exact .inr hR
          match j, hk, hne, hd, hT with
          | 0, _, _, _, hT => exact hT
          | 2, _, _, _, hT => exact hT
          | 1, hk, _, _, hT =>
            rw [addRel, if_neg (by rintro rfl; exact hk rfl)] at hR
            exact own_below hT hR
          | 3, hk, _, _, hT =>
            rw [addRel, if_neg (by rintro rfl; exact hk rfl)] at hR
            obtain ⟨g, hv, hg⟩ := hT
            exact ⟨g, hv, (hR.block g (by
              rcases Nat.lt_or_ge g wa.heap.size with h | h
              · exact h
              · rw [Array.getElem?_eq_none h] at hg; cases hg)).trans hg⟩
          | 4, _, hne, _, hT =>
            rw [addRel, if_neg (fun e => hne e.symm)] at hR
            exact own_below hT hR
          | 5, _, _, hd, hT =>
            rw [addRel, if_neg (by rintro rfl; exact Bool.noConfusion ((show depB _ 5 4 = true from by kernel_rfl).symm.trans hd))] at hR
            exact own_below hT hR
          | n + 6, _, _, _, _ => trivial
        case all =>
          refine RAll.cons rfl ?_ (RAll.cons rfl ?_ (RAll.cons rfl ?_ (RAll.cons rfl ?_ (RAll.cons rfl ?_ (RAll.cons rfl ?_ RAll.none_)))))
          · intro a k wa K Q _ hI hp hK
            exact op_move _ (.inl rfl) (hK _ _ (hp.keep 0 (by kernel_rfl)) (Below.refl _ _) hI)
          · intro a k wa K Q _ hI hp hK
            have e27 : a.eval (.tmp 27) = .slice A us.length c := hp.dep 0 27 (by kernel_rfl)
            refine op_append_rd (enc := usEnc) (v := .slice none 0 0) (.const (.slice none 0 0)) (.tmp 27) w4.heap.size 25 32 _ 2 16 rfl Try.underlying25 Try.infoUsage rfl (by decide) (fun _ => rfl) usEnc_one rfl (World.ownsRow_nil _ _ _ _) e27 (hU.below hI) (by omega) (by omega) hI.size ?_
            intro v' wb ho hg _
            exact hK _ _ (by simpa [addT] using ho) (grown_below hg (Nat.le_refl _) (by simp [Value.ownBlock])) (ext_grown hI hg (by simp [Value.ownBlock]))
          · intro a k wa K Q _ hI hp hK
            have e5 := tmp_of (show a.eval (.tmp 5) = .pointer (some ⟨w.heap.size, 0, none⟩) from hp.keep 5 (by kernel_rfl))
            have c0 := below_cell hI q0
            have c1 := below_cell hI q1
            go_simp
            exact hK _ _ rfl (Below.refl _ _) hI
          · intro a k wa K Q _ hI hp hK
            have e29 := tmp_of (show a.eval (.tmp 29) = .agg #[.int .i64 x, .int .i64 y] from hp.dep 2 29 (by kernel_rfl))
            go_simp
            exact hK _ _ ⟨_, rfl, heap_alloc_new _ _⟩ (below_alloc _ _) (ext_alloc hI _)
          · intro a k wa K Q _ hI hp hK
            have t28 : wa.ownsRow w4.heap.size 32 2 (a.eval (.tmp 28)) us.length (us.flatMap usEnc) := hp.dep 1 28 (by kernel_rfl)
            obtain ⟨g, e30, hgb⟩ : ∃ g, a.eval (.tmp 30) = .slice (some ⟨g, 0, none⟩) 1 1 ∧ wa.heap[g]? = some (.cells #[.int .i64 x, .int .i64 y] 32 (0, 0)) := hp.dep 3 30 (by kernel_rfl)
            refine op_append_rd (enc := usEnc) (l := [(x, y)]) (.tmp 28) (.tmp 30) w4.heap.size 25 32 _ 2 16 rfl Try.underlying25 Try.infoUsage rfl (by decide) (fun _ => rfl) usEnc_one rfl t28 e30 (rd_block (fun _ => rfl) hgb (by rfl)) (by simp; omega) (by simp; omega) hI.size ?_
            intro v' wb ho hg _
            have hb : Below w4.heap.size wa wb := grown_below hg hI.size (fun k hk => (t28.lt k hk).1)
            exact hK _ _ (by simpa [addT] using ho) hb (hI.trans hb)
          · intro a k wa K Q _ hI hp hK
            exact op_move _ (.inr rfl) (hK _ _ (hp.dep 4 31 (by kernel_rfl)) (Below.refl _ _) hI)
        case fin =>
          intro f w5 hT hI0
          obtain ⟨us2, hus2⟩ : ∃ us2, us2 = us ++ [(x, y)] := ⟨_, rfl⟩
          have ho5 : w5.ownsRow w4.heap.size 32 2 (f 5) us2.length (us2.flatMap usEnc) := by rw [hus2]; exact hT 5 (by decide) rfl rfl
          have hI : Below w4.heap.size w4 w5 := hI0
          have hlt2 : us2.length ≤ 2097153 := by rw [hus2]; simp; omega
          obtain ⟨gg, cap, hv5, _⟩ := ho5.form (by rw [hus2]; simp)
          rw [hv5] at ho5
          have hx : usOk us2 = true → 0 ≤ x ∧ x ≤ 1000 := fun h => by
            have := (usOk_bounds h (k := us.length) (by rw [hus2]; simp)).1
            rw [hus2] at this
            simpa [uAt] using this
          have HX := Lib.hid hx
          have HU2 := Lib.hid hus2
          clear hT hI0 hx hus2
          replace hB := ext_trans hB4 hI
          replace ho1 := own_below ho1 hI
          replace q0 := below_cell hI q0
          replace q1 := below_cell hI q1
          replace hU := hU.below hI
          have hsz := hI.size
          have hsz4 := hB4.size
          clear hB4 hI
          simp only [putAll, hv5]
          go_simp
          clear hv5
          cases g4 : usOk us2
          · skip
            go_wp2_with fail
            refine (implUsagesValid (us_own rfl (by omega) ho5)).mono ?_
            rintro e w1 ⟨rfl, hBc⟩
            replace hB := ext_trans hB hBc
            replace hU := hU.below hBc
            replace q0 := below_cell hBc q0
            replace q1 := below_cell hBc q1
            replace ho1 := own_below ho1 hBc
            replace ho5 := own_below ho5 hBc
            clear hBc
            go_wp2
            go_ret2
            exact AddPost.of (by simp [addU, HG1.out, HG2.out, HG3.out, ← HU2.out, g4]) ho1 hB
          · have HG4 := Lib.hid g4
            by_cases g5 : usUsed us2 within x ≤ most
            · skip
              go_wp2_with fail
              refine (implUsagesValid (us_own rfl (by omega) ho5)).mono ?_
              rintro e w1 ⟨rfl, hBc⟩
              replace hB := ext_trans hB hBc
              replace hU := hU.below hBc
              replace q0 := below_cell hBc q0
              replace q1 := below_cell hBc q1
              replace ho1 := own_below ho1 hBc
              replace ho5 := own_below ho5 hBc
              clear hBc
              go_wp2_with fail
              refine (used_any (us_own rfl (by omega) ho5) HG4.out (inB_true.1 HG2.out) (HX.out HG4.out)).mono ?_
              rintro e w2 ⟨rfl, hBc⟩
              replace hB := ext_trans hB hBc
              replace hU := hU.below hBc
              replace q0 := below_cell hBc q0
              replace q1 := below_cell hBc q1
              replace ho1 := own_below ho1 hBc
              replace ho5 := own_below ho5 hBc
              clear hBc
              go_wp2
              go_ret2
              exact AddPost.of (by simp [addU, HG1.out, HG2.out, HG3.out, ← HU2.out, HG4.out, g5]) (own_lower ho5 hsz4) hB
            · skip
              go_wp2_with fail
              refine (implUsagesValid (us_own rfl (by omega) ho5)).mono ?_
              rintro e w1 ⟨rfl, hBc⟩
              replace hB := ext_trans hB hBc
              replace hU := hU.below hBc
              replace q0 := below_cell hBc q0
              replace q1 := below_cell hBc q1
              replace ho1 := own_below ho1 hBc
              replace ho5 := own_below ho5 hBc
              clear hBc
              go_wp2_with fail
              refine (used_any (us_own rfl (by omega) ho5) HG4.out (inB_true.1 HG2.out) (HX.out HG4.out)).mono ?_
              rintro e w2 ⟨rfl, hBc⟩
              replace hB := ext_trans hB hBc
              replace hU := hU.below hBc
              replace q0 := below_cell hBc q0
              replace q1 := below_cell hBc q1
              replace ho1 := own_below ho1 hBc
              replace ho5 := own_below ho5 hBc
              clear hBc
              go_wp2
              go_ret2
              exact AddPost.of (by simp [addU, HG1.out, HG2.out, HG3.out, ← HU2.out, HG4.out]; omega) ho1 hB
end Go.Proofs.Ytjiooipoeahdmaa
