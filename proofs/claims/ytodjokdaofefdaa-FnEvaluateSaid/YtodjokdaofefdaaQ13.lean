/- Values of fields, truths, two values: by the reference. -/
import Derived.Test.YtodjokdaofefdaaQ12
namespace Go.Proofs.Ytodjokdaofefdaa
set_option linter.unusedSimpArgs false
set_option linter.unusedVariables false
open Go.RowKit

set_option maxRecDepth 100000 in
set_option maxHeartbeats 2000000 in
theorem specFieldOf {A : Option Addr} {l : FdL} {c : Nat} {s : ByteArray} {w : World} (hU : fdR w A l) :
    Calls Try.prog 139 #[.slice A l.length c, .string s] w fun e w' => e = .returned (fdVal (fdOf l s)) ∧ Below w.heap.size w w' := by
  have hlen := hU.len
  obtain ⟨W, hW⟩ : ∃ W, W = w.alloc (.cells #[.int .i64 0, .int .i64 0] 79) := ⟨_, rfl⟩
  obtain ⟨g, hg⟩ : ∃ g, g = w.heap.size := ⟨_, rfl⟩
  have hB0 : Below w.heap.size w W := by rw [hW]; exact below_alloc _ _
  have hq : W.heap[g]? = some (.cells #[.int .i64 0, .int .i64 0] 79 (0, 0)) := by rw [hW, hg]; exact heap_alloc_new _ _
  replace hU := hU.below hB0
  have HQ := Lib.hid hq
  have HW := Lib.hid hW
  have HG := Lib.hid hg
  have HGG : Hid (w.heap.size ≤ g) := Lib.hid (Nat.le_of_eq hg.symm)
  clear hW hg hq
  go_enter Try.func139, Try.ntmps139
  go_wp2_with fail
  rw [← HW.out, ← HG.out]
  go_loopw [6] (fun i wr => ∃ k : Nat, k ≤ l.length ∧ i = .int .i64 k ∧ Hid (∀ j, j < k → fd0 l j ≠ s) ∧ Below W.heap.size W wr) (fun i _ => l.length - (intOf i).toNat)
  case atStart => exact ⟨0, Nat.zero_le _, rfl, Lib.hid (fun j h => by omega), Below.refl _ _⟩
  case round =>
    obtain ⟨k, hk, rfl, HN, hB⟩ := hrel
    have HQ1 := Lib.hid (block_in HQ.out hB)
    obtain ⟨z0, z1⟩ := cells2 HQ1.out
    obtain ⟨f0, f1⟩ := froz2 HQ1.out
    have hgl := (Array.getElem?_eq_some_iff.1 HQ1.out).1
    by_cases hlt : k < l.length
    · obtain ⟨b, off, rfl, hc⟩ := hU.cells (by omega)
      obtain ⟨c0, c1, c2⟩ := hc k hlt
      replace c0 := below_cell hB c0
      replace c1 := below_cell hB c1
      replace c2 := below_cell hB c2
      clear hc
      by_cases e : fd0 l k = s
      · have gb := strB_yes e
        have HE : Hid (fdOf l s = some (fd1 l k, fd2 l k)) := Lib.hid (fdOf_hit hlt HN.out e)
        clear e
        go_wp2
        obtain ⟨r0, r1⟩ := cells2 (setCells_atG [.int .i64 (fd1 l k), .int .i64 (fd2 l k)] 0 HQ1.out (by simp))
        simp only [setCells, Nat.zero_add] at r0 r1
        refine bodyPost_ret (v := .tuple #[.agg #[.int .i64 (fd1 l k), .int .i64 (fd2 l k)], .bool true]) (by simp [results, go_sem, r0, r1]) rfl ⟨by rw [HE.out]; rfl, ?_⟩
        exact setCells_below HGG.out [.int .i64 (fd1 l k), .int .i64 (fd2 l k)] 0 (hB0.trans (hB.mono hB0.size))
      · have gb := strB_no e
        have HN2 := Lib.hid (all_succ (p := fun j => fd0 l j ≠ s) HN.out e)
        clear e
        go_wp2
        go_roundw
        case rel => exact ⟨k + 1, by omega, by go_num, HN2, hB⟩
        case measure => simp [intOf]; omega
    · obtain rfl : k = l.length := by omega
      have HE : Hid (fdOf l s = none) := Lib.hid (fdOf_miss HN.out)
      go_wp2
      obtain ⟨r0, r1⟩ := cells2 (show (setCells wr g 0 [.int .i64 0, .int .i64 0]).heap[g]? = some (.cells #[.int .i64 0, .int .i64 0] 79 (0, 0)) from setCells_atG [.int .i64 0, .int .i64 0] 0 HQ1.out (by simp))
      simp only [setCells, Nat.zero_add] at r0 r1
      refine bodyPost_ret (v := .tuple #[.agg #[.int .i64 0, .int .i64 0], .bool false]) (by simp [results, go_sem, r0, r1]) rfl ⟨by rw [HE.out]; rfl, ?_⟩
      exact setCells_below HGG.out [.int .i64 0, .int .i64 0] 0 (hB0.trans (hB.mono hB0.size))
set_option maxRecDepth 100000 in
set_option maxHeartbeats 1000000 in
theorem specTruthOf (b : Bool) (w : World) : Calls Try.prog 104 #[.bool b] w fun e w' => e = .returned (.agg #[.int .i64 1, .int .i64 (b01 b)]) ∧ Below w.heap.size w w' := by
  cases b
  all_goals
    go_enter Try.func104, Try.ntmps104
    go_wp2
    refine bodyPost_ret (v := _) (by simp [results, go_sem]; rfl) rfl ⟨rfl, ?_⟩
    repeat (first | exact Below.refl _ _ | refine ext_alloc ?_ _)
/-- What calls for the value give, by the reference, at parts at most d deep. -/
def LvQ (d : Nat) : Prop := ∀ (W : WL) (r : Rq) (A B C : Option Addr) (c c2 ct : Nat) (t : Ex) (w : World), wlR w A W → fdR w B r.fs → exW d w C t.ps → OkW W r → gdR (d + 1) t = true →
  Calls Try.prog 95 #[.slice A W.length c, .agg #[.int .i64 r.who, .int .i64 r.act, .int .i64 r.what, .slice B r.fs.length c2], .agg #[.int .i64 t.k, .int .i64 t.n, .string t.s, .slice C t.ps.length ct]] w fun e w' => e = .returned (evVal (ev (d + 1) W r t)) ∧ Below w.heap.size w w'
def pairVal (a b : Ev) : Value := if a.2.2 ≠ 0 then .tuple #[.agg #[.int .i64 a.1, .int .i64 a.2.1], .agg #[.int .i64 a.1, .int .i64 a.2.1], .int .i64 a.2.2] else .tuple #[.agg #[.int .i64 a.1, .int .i64 a.2.1], .agg #[.int .i64 b.1, .int .i64 b.2.1], .int .i64 b.2.2]
set_option maxRecDepth 100000 in
set_option maxHeartbeats 8000000 in
theorem l6Pair_any {m : Nat} (hQ : LvQ m) {W : WL} {r : Rq} {A B C : Option Addr} {c c2 ct : Nat} {t : Ex} {w : World} (hW : wlR w A W) (hR : fdR w B r.fs) (hU : exW (m + 1) w C t.ps) (hO : OkW W r) (hn : t.ps.length = 2) (hg : gdR (m + 1 + 1) t = true) :
    Calls Try.prog 154 #[.slice A W.length c, .agg #[.int .i64 r.who, .int .i64 r.act, .int .i64 r.what, .slice B r.fs.length c2], .agg #[.int .i64 t.k, .int .i64 t.n, .string t.s, .slice C t.ps.length ct]] w fun e w' => e = .returned (pairVal (ev (m + 1) W r (exAt t.ps 0)) (ev (m + 1) W r (exAt t.ps 1))) ∧ Below w.heap.size w w' := by
  obtain ⟨X, hX⟩ : ∃ X, X = (((w.alloc (.cells #[.int .i64 r.who, .int .i64 r.act, .int .i64 r.what, .slice B r.fs.length c2] 37)).alloc (.cells #[.int .i64 t.k, .int .i64 t.n, .string t.s, .slice C t.ps.length ct] 28)).alloc (.cells #[.int .i64 0, .int .i64 0] 79)).alloc (.cells #[.int .i64 0, .int .i64 0] 79) := ⟨_, rfl⟩
  obtain ⟨g, hgg⟩ : ∃ g, g = w.heap.size := ⟨_, rfl⟩
  have hB : Below w.heap.size w X := by rw [hX]; (repeat (first | exact Below.refl _ _ | refine ext_alloc ?_ _ | refine Below.setCell ?_ (by simp) _))
  have hq1 : X.heap[g]? = some (.cells #[.int .i64 r.who, .int .i64 r.act, .int .i64 r.what, .slice B r.fs.length c2] 37 (0, 0)) := by rw [hX, hgg]; exact block_in (block_in (block_in (heap_alloc_new _ _) (below_alloc _ _)) (below_alloc _ _)) (below_alloc _ _)
  have hq2 : X.heap[g + 1]? = some (.cells #[.int .i64 t.k, .int .i64 t.n, .string t.s, .slice C t.ps.length ct] 28 (0, 0)) := by rw [hX, hgg]; exact block_in (block_in (heap_alloc_at (by simp)) (below_alloc _ _)) (below_alloc _ _)
  have hq3 : X.heap[g + 1 + 1]? = some (.cells #[.int .i64 0, .int .i64 0] 79 (0, 0)) := by rw [hX, hgg]; exact block_in (heap_alloc_at (by simp)) (below_alloc _ _)
  have hq4 : X.heap[g + 1 + 1 + 1]? = some (.cells #[.int .i64 0, .int .i64 0] 79 (0, 0)) := by rw [hX, hgg]; exact heap_alloc_at (by simp)
  replace hW := hW.below hB
  replace hR := hR.below hB
  replace hU := hU.below hB
  have hlW := hW.len
  have hlR := hR.len
  have hGB : w.heap.size ≤ g + 1 + 1 ∧ g + 1 + 1 + 1 < X.heap.size := ⟨by omega, by rw [hX, hgg]; simp⟩
  have HX := Lib.hid hX
  have HG := Lib.hid hgg
  have HQ1 := Lib.hid hq1
  have HQ2 := Lib.hid hq2
  have HQ3 := Lib.hid hq3
  have HQ4 := Lib.hid hq4
  have HGB := Lib.hid hGB
  have HB := Lib.hid hB
  obtain ⟨p0, p1, p2, p3⟩ := cells4 hq1
  obtain ⟨q0, q1, q2, q3⟩ := cells4 hq2
  obtain ⟨z0, z1⟩ := cells2 hq3
  obtain ⟨f0, f1⟩ := froz2 hq3
  clear hX hgg hq1 hq2 hq3 hB hGB hq4
  have hg0 := gd_part hg (k := 0) (by omega)
  have hg1 := gd_part hg (k := 1) (by omega)
  obtain ⟨va, hva⟩ : ∃ v, ev (m + 1) W r (exAt t.ps 0) = v := ⟨_, rfl⟩
  obtain ⟨vb, hvb⟩ : ∃ v, ev (m + 1) W r (exAt t.ps 1) = v := ⟨_, rfl⟩
  have HA : Hid (∀ (Y : World) (C' : Option Addr) (c' : Nat), Below X.heap.size X Y → exW m Y C' (exAt t.ps 0).ps → Calls Try.prog 95 #[.slice A W.length c, .agg #[.int .i64 r.who, .int .i64 r.act, .int .i64 r.what, .slice B r.fs.length c2], .agg #[.int .i64 (exAt t.ps 0).k, .int .i64 (exAt t.ps 0).n, .string (exAt t.ps 0).s, .slice C' (exAt t.ps 0).ps.length c']] Y fun e w' => e = .returned (evVal va) ∧ Below Y.heap.size Y w') := Lib.hid (fun Y C' c' hb h => hva ▸ hQ W r A B C' c c2 c' _ Y (hW.below hb) (hR.below hb) h hO hg0)
  have HC : Hid (∀ (Y : World) (C' : Option Addr) (c' : Nat), Below X.heap.size X Y → exW m Y C' (exAt t.ps 1).ps → Calls Try.prog 95 #[.slice A W.length c, .agg #[.int .i64 r.who, .int .i64 r.act, .int .i64 r.what, .slice B r.fs.length c2], .agg #[.int .i64 (exAt t.ps 1).k, .int .i64 (exAt t.ps 1).n, .string (exAt t.ps 1).s, .slice C' (exAt t.ps 1).ps.length c']] Y fun e w' => e = .returned (evVal vb) ∧ Below Y.heap.size Y w') := Lib.hid (fun Y C' c' hb h => hvb ▸ hQ W r A B C' c c2 c' _ Y (hW.below hb) (hR.below hb) h hO hg1)
  rw [hva, hvb]
  obtain ⟨xa, ya, fa⟩ := va
  obtain ⟨xb, yb, fb⟩ := vb
  unfold evVal at HA HC
  have HT : Hid (pairVal (xa, ya, fa) (xb, yb, fb) = if fa ≠ 0 then .tuple #[.agg #[.int .i64 xa, .int .i64 ya], .agg #[.int .i64 xa, .int .i64 ya], .int .i64 fa] else .tuple #[.agg #[.int .i64 xa, .int .i64 ya], .agg #[.int .i64 xb, .int .i64 yb], .int .i64 fb]) := Lib.hid rfl
  obtain ⟨b, off, A3, c3, A4, c4, rfl, hfd, hfe, ⟨a0, a1, a2, a3⟩, ⟨b0, b1, b2, b3⟩⟩ := ex_two hU hn
  have hlt0 : 0 < t.ps.length := by omega
  have hlt1 : 1 < t.ps.length := by omega
  have hlm : t.ps.length ≤ 9223372036854775807 := by omega
  have hi1 : (1 : Int) < t.ps.length := by omega
  have HFD := Lib.hid hfd
  have HFE := Lib.hid hfe
  clear hQ hva hvb hO hg hg0 hg1 hn hU hfd hfe hW hR
  go_enter Try.func154, Try.ntmps154
  go_wp2_with fail
  rw [← HX.out, ← HG.out]
  refine wp_region_nbox X 79 2 10 11 9 #[.int .i64 xa, .int .i64 ya] (fun i wz vz => match i with | 10 => BoxV X 79 2 wz vz | 0 => vz = .slice A W.length c | 1 => vz = .agg #[.int .i64 r.who, .int .i64 r.act, .int .i64 r.what, .slice B r.fs.length c2] | 2 => vz = .pointer (some ⟨g + 1, 3, Option.none⟩) | 3 => vz = .slice (some ⟨b, off, none⟩) t.ps.length ct | 4 => vz = .pointer (some ⟨b, off, Option.none⟩) | 5 => vz = .agg #[.int .i64 (exAt t.ps 0).k, .int .i64 (exAt t.ps 0).n, .string (exAt t.ps 0).s, .slice A3 (exAt t.ps 0).ps.length c3] | 6 => vz = .tuple #[.agg #[.int .i64 xa, .int .i64 ya], .int .i64 fa] | 7 => vz = .tuple #[.agg #[.int .i64 xa, .int .i64 ya], .int .i64 fa] | 8 => vz = .agg #[.int .i64 xa, .int .i64 ya] | 9 => vz = .int .i64 fa | 12 => vz = .int .i64 fa | _ => True) (by kernel_rfl) (by kernel_rfl) (by kernel_rfl) rfl (by kernel_rfl) (fun _ _ h => h) (fun _ _ h => h) ?stab1 ?all1 (by decide) ?fin1
  case stab1 =>
    intro i wa wb v hne hT
    match i, hne, hT with
    | 0, _, hT => exact hT
    | 1, _, hT => exact hT
    | 2, _, hT => exact hT
    | 3, _, hT => exact hT
    | 4, _, hT => exact hT
    | 5, _, hT => exact hT
    | 6, _, hT => exact hT
    | 7, _, hT => exact hT
    | 8, _, hT => exact hT
    | 9, _, hT => exact hT
    | 12, _, hT => exact hT
    | 10, hne, _ => exact absurd rfl hne
    | 11, _, _ => trivial
    | n + 13, _, _ => trivial
  case all1 =>
    refine RAllL.cons rfl ?_ (RAllL.cons rfl ?_ (RAllL.cons rfl ?_ (RAllL.cons rfl ?_ (RAllL.cons rfl ?_ (RAllL.cons rfl ?_ (RAllL.cons rfl ?_ (RAllL.cons rfl ?_ (RAllL.cons rfl ?_ (RAllL.cons rfl ?_ (RAllL.cons rfl ?_ (RAllL.cons rfl ?_ (RAllL.cons rfl ?_ (RAllL.none_)))))))))))))
    · intro a kq_ wa K Q _ hI0 hp hK0
      have hI : Below X.heap.size X wa := hI0
      have hK := fun v w' h1 (h2 : Below wa.heap.size wa w') (h3 : Below X.heap.size X w') => hK0 v w' h1 (RelB.of_below h2) h3 (fun e => absurd e (by decide))
      exact op_move _ (.inl rfl) (hK _ _ (hp.keep 0 (by kernel_rfl)) (Below.refl _ _) hI)
    · intro a kq_ wa K Q _ hI0 hp hK0
      have hI : Below X.heap.size X wa := hI0
      have hK := fun v w' h1 (h2 : Below wa.heap.size wa w') (h3 : Below X.heap.size X w') => hK0 v w' h1 (RelB.of_below h2) h3 (fun e => absurd e (by decide))
      have e4 := tmp_of (show a.eval (.tmp 4) = .pointer (some ⟨g, 0, none⟩) from hp.keep 4 (by kernel_rfl))
      have p0_ := below_cell hI p0
      have p1_ := below_cell hI p1
      have p2_ := below_cell hI p2
      have p3_ := below_cell hI p3
      go_simp
      exact hK _ _ rfl (Below.refl _ _) hI
    · intro a kq_ wa K Q _ hI0 hp hK0
      have hI : Below X.heap.size X wa := hI0
      have hK := fun v w' h1 (h2 : Below wa.heap.size wa w') (h3 : Below X.heap.size X w') => hK0 v w' h1 (RelB.of_below h2) h3 (fun e => absurd e (by decide))
      have e5 := tmp_of (show a.eval (.tmp 5) = .pointer (some ⟨g + 1, 0, none⟩) from hp.keep 5 (by kernel_rfl))
      go_simp
      exact hK _ _ rfl (Below.refl _ _) hI
    · intro a kq_ wa K Q _ hI0 hp hK0
      have hI : Below X.heap.size X wa := hI0
      have hK := fun v w' h1 (h2 : Below wa.heap.size wa w') (h3 : Below X.heap.size X w') => hK0 v w' h1 (RelB.of_below h2) h3 (fun e => absurd e (by decide))
      have e16 := tmp_of (show a.eval (.tmp 16) = .pointer (some ⟨g + 1, 3, Option.none⟩) from hp.dep 2 16 (by kernel_rfl))
      have q3_ := below_cell hI q3
      go_simp
      exact hK _ _ rfl (Below.refl _ _) hI
    · intro a kq_ wa K Q _ hI0 hp hK0
      have hI : Below X.heap.size X wa := hI0
      have hK := fun v w' h1 (h2 : Below wa.heap.size wa w') (h3 : Below X.heap.size X w') => hK0 v w' h1 (RelB.of_below h2) h3 (fun e => absurd e (by decide))
      have e17 := tmp_of (show a.eval (.tmp 17) = .slice (some ⟨b, off, none⟩) t.ps.length ct from hp.dep 3 17 (by kernel_rfl))
      go_simp
      exact hK _ _ rfl (Below.refl _ _) hI
    · intro a kq_ wa K Q _ hI0 hp hK0
      have hI : Below X.heap.size X wa := hI0
      have hK := fun v w' h1 (h2 : Below wa.heap.size wa w') (h3 : Below X.heap.size X w') => hK0 v w' h1 (RelB.of_below h2) h3 (fun e => absurd e (by decide))
      have e18 := tmp_of (show a.eval (.tmp 18) = .pointer (some ⟨b, off, Option.none⟩) from hp.dep 4 18 (by kernel_rfl))
      have a0_ := below_cell hI a0
      have a1_ := below_cell hI a1
      have a2_ := below_cell hI a2
      have a3_ := below_cell hI a3
      go_simp
      exact hK _ _ rfl (Below.refl _ _) hI
    · intro a kq_ wa K Q _ hI0 hp hK0
      have hI : Below X.heap.size X wa := hI0
      have hK := fun v w' h1 (h2 : Below wa.heap.size wa w') (h3 : Below X.heap.size X w') => hK0 v w' h1 (RelB.of_below h2) h3 (fun e => absurd e (by decide))
      have e14 := tmp_of (show a.eval (.tmp 14) = .slice A W.length c from hp.dep 0 14 (by kernel_rfl))
      have e15 := tmp_of (show a.eval (.tmp 15) = .agg #[.int .i64 r.who, .int .i64 r.act, .int .i64 r.what, .slice B r.fs.length c2] from hp.dep 1 15 (by kernel_rfl))
      have e19 := tmp_of (show a.eval (.tmp 19) = .agg #[.int .i64 (exAt t.ps 0).k, .int .i64 (exAt t.ps 0).n, .string (exAt t.ps 0).s, .slice A3 (exAt t.ps 0).ps.length c3] from hp.dep 5 19 (by kernel_rfl))
      go_simp
      refine (HA.out _ _ _ hI (HFD.out.below hI)).mono ?_
      rintro e wb ⟨rfl, hb⟩
      exact hK _ _ (show _ = (.tuple #[.agg #[.int .i64 xa, .int .i64 ya], .int .i64 fa] : Value) from rfl) hb (ext_trans hI hb)
    · intro a kq_ wa K Q _ hI0 hp hK0
      have hI : Below X.heap.size X wa := hI0
      have hK := fun v w' h1 (h2 : Below wa.heap.size wa w') (h3 : Below X.heap.size X w') => hK0 v w' h1 (RelB.of_below h2) h3 (fun e => absurd e (by decide))
      exact op_move _ (.inl rfl) (hK _ _ (hp.dep 6 20 (by kernel_rfl)) (Below.refl _ _) hI)
    · intro a kq_ wa K Q _ hI0 hp hK0
      have hI : Below X.heap.size X wa := hI0
      have hK := fun v w' h1 (h2 : Below wa.heap.size wa w') (h3 : Below X.heap.size X w') => hK0 v w' h1 (RelB.of_below h2) h3 (fun e => absurd e (by decide))
      have e13 := tmp_of (show a.eval (.tmp 13) = .tuple #[.agg #[.int .i64 xa, .int .i64 ya], .int .i64 fa] from hp.dep 7 13 (by kernel_rfl))
      go_simp
      exact hK _ _ rfl (Below.refl _ _) hI
    · intro a kq_ wa K Q _ hI0 hp hK0
      have hI : Below X.heap.size X wa := hI0
      have hK := fun v w' h1 (h2 : Below wa.heap.size wa w') (h3 : Below X.heap.size X w') => hK0 v w' h1 (RelB.of_below h2) h3 (fun e => absurd e (by decide))
      have e13 := tmp_of (show a.eval (.tmp 13) = .tuple #[.agg #[.int .i64 xa, .int .i64 ya], .int .i64 fa] from hp.dep 7 13 (by kernel_rfl))
      go_simp
      exact hK _ _ rfl (Below.refl _ _) hI
    · intro a kq_ wa K Q _ hI0 hp hK0
      have hI : Below X.heap.size X wa := hI0
      have hK := fun v w' h1 (h2 : Below wa.heap.size wa w') (h3 : Below X.heap.size X w') => hK0 v w' h1 (RelB.of_below h2) h3 (fun e => absurd e (by decide))
      go_simp
      exact hK _ _ ⟨_, rfl, hI.size, _, heap_alloc_new _ _, rfl⟩ (below_alloc _ _) (ext_alloc hI _)
    · intro a kq_ wa K Q _ hI0 hp hK0
      have hI : Below X.heap.size X wa := hI0
      obtain ⟨g8, eB, hgB, cs8, hg8, hcs8⟩ := (show BoxV X 79 2 wa (a.eval (.tmp 9)) from hp.base (by kernel_rfl))
      have eB2 := tmp_of eB
      have e21 := tmp_of (show a.eval (.tmp 21) = .agg #[.int .i64 xa, .int .i64 ya] from hp.dep 8 21 (by kernel_rfl))
      obtain ⟨hr8, hb8, hg9⟩ := nbox_put (N := 11) (.int .i64 xa) (.int .i64 ya) hgB hg8 hcs8 hI
      obtain ⟨c80, c81, d80, d81, f80, f81⟩ := nbox_cells hg8 hcs8
      go_simp
      exact hK0 (.tuple #[]) _ trivial hr8 hb8 (fun _ => ⟨g8, eB, hgB, hg9⟩)
    · intro a kq_ wa K Q _ hI0 hp hK0
      have hI : Below X.heap.size X wa := hI0
      have hK := fun v w' h1 (h2 : Below wa.heap.size wa w') (h3 : Below X.heap.size X w') => hK0 v w' h1 (RelB.of_below h2) h3 (fun e => absurd e (by decide))
      exact op_move _ (.inr rfl) (hK _ _ (hp.dep 9 22 (by kernel_rfl)) (Below.refl _ _) hI)
  case fin1 =>
    intro f w2 hT hBx hI0
    have hI : Below X.heap.size X w2 := hI0
    have hr : (f 12) = .int .i64 fa := hT 12 (by decide) rfl
    clear hT hI0
    obtain ⟨ga, eA, hgA, hqA⟩ := hBx
    simp only [putAll, eA, hr]
    have HB2 := Lib.hid (ext_trans HB.out hI)
    have HI2 := Lib.hid hI
    have HQ3 := Lib.hid (block_in HQ3.out hI)
    have HQ4 := Lib.hid (block_in HQ4.out hI)
    have HQA := Lib.hid hqA
    clear z0 z1 f0 f1 p0 p1 p2 p3 q0 q1 q2 q3
    obtain ⟨p0, p1, p2, p3⟩ := cells4 (block_in HQ1.out hI)
    obtain ⟨q0, q1, q2, q3⟩ := cells4 (block_in HQ2.out hI)
    have HFE := Lib.hid (HFE.out.below hI)
    have hga : ga ≠ g + 1 + 1 ∧ ga ≠ g + 1 + 1 + 1 := by have := HGB.out.2; omega
    obtain ⟨n1, n2⟩ := hga
    have m1 := Ne.symm n1
    have m2 := Ne.symm n2
    replace b0 := below_cell hI b0
    replace b1 := below_cell hI b1
    replace b2 := below_cell hI b2
    replace b3 := below_cell hI b3
    clear hr eA hqA a0 a1 a2 a3 hI
    go_simp
    by_cases e1 : fa = 0
    · have gb : (fa != 0) = false := by simpa using e1
      go_wp2
      refine wp_region_nbox w2 79 2 10 11 11 #[.int .i64 xb, .int .i64 yb] (fun i wz vz => match i with | 10 => BoxV w2 79 2 wz vz | 0 => vz = .slice A W.length c | 1 => vz = .agg #[.int .i64 r.who, .int .i64 r.act, .int .i64 r.what, .slice B r.fs.length c2] | 2 => vz = .pointer (some ⟨g + 1, 3, Option.none⟩) | 3 => vz = .slice (some ⟨b, off, none⟩) t.ps.length ct | 4 => vz = .pointer (some ⟨b, off + 4, Option.none⟩) | 5 => vz = .agg #[.int .i64 (exAt t.ps 1).k, .int .i64 (exAt t.ps 1).n, .string (exAt t.ps 1).s, .slice A4 (exAt t.ps 1).ps.length c4] | 6 => vz = .tuple #[.agg #[.int .i64 xb, .int .i64 yb], .int .i64 fb] | 7 => vz = .tuple #[.agg #[.int .i64 xb, .int .i64 yb], .int .i64 fb] | 8 => vz = .agg #[.int .i64 xb, .int .i64 yb] | 9 => vz = .int .i64 fb | 12 => vz = .int .i64 fb | _ => True) (by kernel_rfl) (by kernel_rfl) (by kernel_rfl) rfl (by kernel_rfl) (fun _ _ h => h) (fun _ _ h => h) ?stab4 ?all4 (by decide) ?fin4
      case stab4 =>
        intro i wa wb v hne hT
        match i, hne, hT with
        | 0, _, hT => exact hT
        | 1, _, hT => exact hT
        | 2, _, hT => exact hT
        | 3, _, hT => exact hT
        | 4, _, hT => exact hT
        | 5, _, hT => exact hT
        | 6, _, hT => exact hT
        | 7, _, hT => exact hT
        | 8, _, hT => exact hT
        | 9, _, hT => exact hT
        | 12, _, hT => exact hT
        | 10, hne, _ => exact absurd rfl hne
        | 11, _, _ => trivial
        | n + 13, _, _ => trivial
      case all4 =>
        refine RAllL.cons rfl ?_ (RAllL.cons rfl ?_ (RAllL.cons rfl ?_ (RAllL.cons rfl ?_ (RAllL.cons rfl ?_ (RAllL.cons rfl ?_ (RAllL.cons rfl ?_ (RAllL.cons rfl ?_ (RAllL.cons rfl ?_ (RAllL.cons rfl ?_ (RAllL.cons rfl ?_ (RAllL.cons rfl ?_ (RAllL.cons rfl ?_ (RAllL.none_)))))))))))))
        · intro a kq_ wa K Q _ hI0 hp hK0
          have hI : Below w2.heap.size w2 wa := hI0
          have hK := fun v w' h1 (h2 : Below wa.heap.size wa w') (h3 : Below w2.heap.size w2 w') => hK0 v w' h1 (RelB.of_below h2) h3 (fun e => absurd e (by decide))
          exact op_move _ (.inl rfl) (hK _ _ (hp.keep 0 (by kernel_rfl)) (Below.refl _ _) hI)
        · intro a kq_ wa K Q _ hI0 hp hK0
          have hI : Below w2.heap.size w2 wa := hI0
          have hK := fun v w' h1 (h2 : Below wa.heap.size wa w') (h3 : Below w2.heap.size w2 w') => hK0 v w' h1 (RelB.of_below h2) h3 (fun e => absurd e (by decide))
          have e4 := tmp_of (show a.eval (.tmp 4) = .pointer (some ⟨g, 0, none⟩) from hp.keep 4 (by kernel_rfl))
          have p0_ := below_cell hI p0
          have p1_ := below_cell hI p1
          have p2_ := below_cell hI p2
          have p3_ := below_cell hI p3
          go_simp
          exact hK _ _ rfl (Below.refl _ _) hI
        · intro a kq_ wa K Q _ hI0 hp hK0
          have hI : Below w2.heap.size w2 wa := hI0
          have hK := fun v w' h1 (h2 : Below wa.heap.size wa w') (h3 : Below w2.heap.size w2 w') => hK0 v w' h1 (RelB.of_below h2) h3 (fun e => absurd e (by decide))
          have e5 := tmp_of (show a.eval (.tmp 5) = .pointer (some ⟨g + 1, 0, none⟩) from hp.keep 5 (by kernel_rfl))
          go_simp
          exact hK _ _ rfl (Below.refl _ _) hI
        · intro a kq_ wa K Q _ hI0 hp hK0
          have hI : Below w2.heap.size w2 wa := hI0
          have hK := fun v w' h1 (h2 : Below wa.heap.size wa w') (h3 : Below w2.heap.size w2 w') => hK0 v w' h1 (RelB.of_below h2) h3 (fun e => absurd e (by decide))
          have e31 := tmp_of (show a.eval (.tmp 31) = .pointer (some ⟨g + 1, 3, Option.none⟩) from hp.dep 2 31 (by kernel_rfl))
          have q3_ := below_cell hI q3
          go_simp
          exact hK _ _ rfl (Below.refl _ _) hI
        · intro a kq_ wa K Q _ hI0 hp hK0
          have hI : Below w2.heap.size w2 wa := hI0
          have hK := fun v w' h1 (h2 : Below wa.heap.size wa w') (h3 : Below w2.heap.size w2 w') => hK0 v w' h1 (RelB.of_below h2) h3 (fun e => absurd e (by decide))
          have e32 := tmp_of (show a.eval (.tmp 32) = .slice (some ⟨b, off, none⟩) t.ps.length ct from hp.dep 3 32 (by kernel_rfl))
          go_simp
          exact hK _ _ rfl (Below.refl _ _) hI
        · intro a kq_ wa K Q _ hI0 hp hK0
          have hI : Below w2.heap.size w2 wa := hI0
          have hK := fun v w' h1 (h2 : Below wa.heap.size wa w') (h3 : Below w2.heap.size w2 w') => hK0 v w' h1 (RelB.of_below h2) h3 (fun e => absurd e (by decide))
          have e33 := tmp_of (show a.eval (.tmp 33) = .pointer (some ⟨b, off + 4, Option.none⟩) from hp.dep 4 33 (by kernel_rfl))
          have b0_ := below_cell hI b0
          have b1_ := below_cell hI b1
          have b2_ := below_cell hI b2
          have b3_ := below_cell hI b3
          go_simp
          exact hK _ _ rfl (Below.refl _ _) hI
        · intro a kq_ wa K Q _ hI0 hp hK0
          have hI : Below w2.heap.size w2 wa := hI0
          have hK := fun v w' h1 (h2 : Below wa.heap.size wa w') (h3 : Below w2.heap.size w2 w') => hK0 v w' h1 (RelB.of_below h2) h3 (fun e => absurd e (by decide))
          have e29 := tmp_of (show a.eval (.tmp 29) = .slice A W.length c from hp.dep 0 29 (by kernel_rfl))
          have e30 := tmp_of (show a.eval (.tmp 30) = .agg #[.int .i64 r.who, .int .i64 r.act, .int .i64 r.what, .slice B r.fs.length c2] from hp.dep 1 30 (by kernel_rfl))
          have e34 := tmp_of (show a.eval (.tmp 34) = .agg #[.int .i64 (exAt t.ps 1).k, .int .i64 (exAt t.ps 1).n, .string (exAt t.ps 1).s, .slice A4 (exAt t.ps 1).ps.length c4] from hp.dep 5 34 (by kernel_rfl))
          go_simp
          refine (HC.out _ _ _ (ext_trans HI2.out hI) (HFE.out.below hI)).mono ?_
          rintro e wb ⟨rfl, hb⟩
          exact hK _ _ (show _ = (.tuple #[.agg #[.int .i64 xb, .int .i64 yb], .int .i64 fb] : Value) from rfl) hb (ext_trans hI hb)
        · intro a kq_ wa K Q _ hI0 hp hK0
          have hI : Below w2.heap.size w2 wa := hI0
          have hK := fun v w' h1 (h2 : Below wa.heap.size wa w') (h3 : Below w2.heap.size w2 w') => hK0 v w' h1 (RelB.of_below h2) h3 (fun e => absurd e (by decide))
          exact op_move _ (.inl rfl) (hK _ _ (hp.dep 6 35 (by kernel_rfl)) (Below.refl _ _) hI)
        · intro a kq_ wa K Q _ hI0 hp hK0
          have hI : Below w2.heap.size w2 wa := hI0
          have hK := fun v w' h1 (h2 : Below wa.heap.size wa w') (h3 : Below w2.heap.size w2 w') => hK0 v w' h1 (RelB.of_below h2) h3 (fun e => absurd e (by decide))
          have e28 := tmp_of (show a.eval (.tmp 28) = .tuple #[.agg #[.int .i64 xb, .int .i64 yb], .int .i64 fb] from hp.dep 7 28 (by kernel_rfl))
          go_simp
          exact hK _ _ rfl (Below.refl _ _) hI
        · intro a kq_ wa K Q _ hI0 hp hK0
          have hI : Below w2.heap.size w2 wa := hI0
          have hK := fun v w' h1 (h2 : Below wa.heap.size wa w') (h3 : Below w2.heap.size w2 w') => hK0 v w' h1 (RelB.of_below h2) h3 (fun e => absurd e (by decide))
          have e28 := tmp_of (show a.eval (.tmp 28) = .tuple #[.agg #[.int .i64 xb, .int .i64 yb], .int .i64 fb] from hp.dep 7 28 (by kernel_rfl))
          go_simp
          exact hK _ _ rfl (Below.refl _ _) hI
        · intro a kq_ wa K Q _ hI0 hp hK0
          have hI : Below w2.heap.size w2 wa := hI0
          have hK := fun v w' h1 (h2 : Below wa.heap.size wa w') (h3 : Below w2.heap.size w2 w') => hK0 v w' h1 (RelB.of_below h2) h3 (fun e => absurd e (by decide))
          go_simp
          exact hK _ _ ⟨_, rfl, hI.size, _, heap_alloc_new _ _, rfl⟩ (below_alloc _ _) (ext_alloc hI _)
        · intro a kq_ wa K Q _ hI0 hp hK0
          have hI : Below w2.heap.size w2 wa := hI0
          obtain ⟨g8, eB, hgB, cs8, hg8, hcs8⟩ := (show BoxV w2 79 2 wa (a.eval (.tmp 11)) from hp.base (by kernel_rfl))
          have eB2 := tmp_of eB
          have e36 := tmp_of (show a.eval (.tmp 36) = .agg #[.int .i64 xb, .int .i64 yb] from hp.dep 8 36 (by kernel_rfl))
          obtain ⟨hr8, hb8, hg9⟩ := nbox_put (N := 11) (.int .i64 xb) (.int .i64 yb) hgB hg8 hcs8 hI
          obtain ⟨c80, c81, d80, d81, f80, f81⟩ := nbox_cells hg8 hcs8
          go_simp
          exact hK0 (.tuple #[]) _ trivial hr8 hb8 (fun _ => ⟨g8, eB, hgB, hg9⟩)
        · intro a kq_ wa K Q _ hI0 hp hK0
          have hI : Below w2.heap.size w2 wa := hI0
          have hK := fun v w' h1 (h2 : Below wa.heap.size wa w') (h3 : Below w2.heap.size w2 w') => hK0 v w' h1 (RelB.of_below h2) h3 (fun e => absurd e (by decide))
          exact op_move _ (.inr rfl) (hK _ _ (hp.dep 9 37 (by kernel_rfl)) (Below.refl _ _) hI)
      case fin4 =>
        intro f w3 hT hBx hI0
        have hI : Below w2.heap.size w2 w3 := hI0
        have hr : (f 12) = .int .i64 fb := hT 12 (by decide) rfl
        clear hT hI0
        obtain ⟨gb2, eB, hgB, hqB⟩ := hBx
        simp only [putAll, eB, hr]
        have HB3 := Lib.hid (ext_trans HB2.out hI)
        have HQ3 := Lib.hid (block_in HQ3.out hI)
        have HQ4 := Lib.hid (block_in HQ4.out hI)
        obtain ⟨u0, u1⟩ := cells2 (block_in HQA.out hI)
        obtain ⟨v0, v1⟩ := cells2 hqB
        obtain ⟨z0, z1⟩ := cells2 HQ3.out
        obtain ⟨f0, f1⟩ := froz2 HQ3.out
        obtain ⟨s0, s1⟩ := cells2 HQ4.out
        obtain ⟨h0, h1⟩ := froz2 HQ4.out
        have hgb : gb2 ≠ g + 1 + 1 ∧ gb2 ≠ g + 1 + 1 + 1 := by have := HGB.out.2; have := HI2.out.size; omega
        obtain ⟨n3, n4⟩ := hgb
        have m3 := Ne.symm n3
        have m4 := Ne.symm n4
        clear hr eB hqB b0 b1 b2 b3 hI p0 p1 p2 p3 q0 q1 q2 q3
        go_simp
        go_wp2
        go_region
        obtain ⟨k1, k2⟩ := box2_put (.int .i64 xa) (.int .i64 ya) (.int .i64 xb) (.int .i64 yb) (by omega) HQ3.out HQ4.out rfl rfl
        obtain ⟨r0, r1⟩ := cells2 (w := ((((w3.setCell ⟨g + 1 + 1, 0, none⟩ (.int .i64 xa)).setCell ⟨g + 1 + 1, 1, none⟩ (.int .i64 ya)).setCell ⟨g + 1 + 1 + 1, 0, none⟩ (.int .i64 xb)).setCell ⟨g + 1 + 1 + 1, 1, none⟩ (.int .i64 yb)).drew) k1
        obtain ⟨r2, r3⟩ := cells2 (w := ((((w3.setCell ⟨g + 1 + 1, 0, none⟩ (.int .i64 xa)).setCell ⟨g + 1 + 1, 1, none⟩ (.int .i64 ya)).setCell ⟨g + 1 + 1 + 1, 0, none⟩ (.int .i64 xb)).setCell ⟨g + 1 + 1 + 1, 1, none⟩ (.int .i64 yb)).drew) k2
        have HF := Lib.hid (ext_drew (box_put_below (.int .i64 xb) (.int .i64 yb) (Nat.le_succ_of_le HGB.out.1) (box_put_below (.int .i64 xa) (.int .i64 ya) HGB.out.1 HB3.out)))
        have HE : Hid (pairVal (xa, ya, fa) (xb, yb, fb) = .tuple #[.agg #[.int .i64 xa, .int .i64 ya], .agg #[.int .i64 xb, .int .i64 yb], .int .i64 fb]) := Lib.hid (by rw [HT.out, if_neg (by simp [e1])])
        clear k1 k2 e1 gb
        go_wp2
        exact bodyPost_ret (v := .tuple #[.agg #[.int .i64 xa, .int .i64 ya], .agg #[.int .i64 xb, .int .i64 yb], .int .i64 fb]) (by simp [results, go_sem, r0, r1, r2, r3]) rfl ⟨by rw [HE.out], HF.out⟩
    · have gb : (fa != 0) = true := by simpa using e1
      obtain ⟨u0, u1⟩ := cells2 HQA.out
      obtain ⟨z0, z1⟩ := cells2 HQ3.out
      obtain ⟨f0, f1⟩ := froz2 HQ3.out
      obtain ⟨s0, s1⟩ := cells2 HQ4.out
      obtain ⟨h0, h1⟩ := froz2 HQ4.out
      clear b0 b1 b2 b3 p0 p1 p2 p3 q0 q1 q2 q3
      go_simp
      go_wp2
      go_region
      obtain ⟨k1, k2⟩ := box2_put (.int .i64 xa) (.int .i64 ya) (.int .i64 xa) (.int .i64 ya) (by omega) HQ3.out HQ4.out rfl rfl
      obtain ⟨r0, r1⟩ := cells2 (w := ((((w2.setCell ⟨g + 1 + 1, 0, none⟩ (.int .i64 xa)).setCell ⟨g + 1 + 1, 1, none⟩ (.int .i64 ya)).setCell ⟨g + 1 + 1 + 1, 0, none⟩ (.int .i64 xa)).setCell ⟨g + 1 + 1 + 1, 1, none⟩ (.int .i64 ya)).drew) k1
      obtain ⟨r2, r3⟩ := cells2 (w := ((((w2.setCell ⟨g + 1 + 1, 0, none⟩ (.int .i64 xa)).setCell ⟨g + 1 + 1, 1, none⟩ (.int .i64 ya)).setCell ⟨g + 1 + 1 + 1, 0, none⟩ (.int .i64 xa)).setCell ⟨g + 1 + 1 + 1, 1, none⟩ (.int .i64 ya)).drew) k2
      have HF := Lib.hid (ext_drew (box_put_below (.int .i64 xa) (.int .i64 ya) (Nat.le_succ_of_le HGB.out.1) (box_put_below (.int .i64 xa) (.int .i64 ya) HGB.out.1 HB2.out)))
      have HE : Hid (pairVal (xa, ya, fa) (xb, yb, fb) = .tuple #[.agg #[.int .i64 xa, .int .i64 ya], .agg #[.int .i64 xa, .int .i64 ya], .int .i64 fa]) := Lib.hid (by rw [HT.out, if_pos e1])
      clear k1 k2 e1 gb
      go_wp2
      exact bodyPost_ret (v := .tuple #[.agg #[.int .i64 xa, .int .i64 ya], .agg #[.int .i64 xa, .int .i64 ya], .int .i64 fa]) (by simp [results, go_sem, r0, r1, r2, r3]) rfl ⟨by rw [HE.out], HF.out⟩
end Go.Proofs.Ytodjokdaofefdaa
/- And, or: by the reference. -/
namespace Go.Proofs.Ytodjokdaofefdaa
set_option linter.unusedSimpArgs false
set_option linter.unusedVariables false
open Go.RowKit

set_option maxRecDepth 100000 in
set_option maxHeartbeats 8000000 in
theorem l6Either_any {m : Nat} (hQ : LvQ m) {W : WL} {r : Rq} {A B C : Option Addr} {c c2 ct : Nat} {t : Ex} {w : World} {stop : Int} (hW : wlR w A W) (hR : fdR w B r.fs) (hU : exW (m + 1) w C t.ps) (hO : OkW W r) (hn : t.ps.length = 2) (hg : gdR (m + 1 + 1) t = true) (hs : stop = 0 ∨ stop = 1) :
    Calls Try.prog 140 #[.slice A W.length c, .agg #[.int .i64 r.who, .int .i64 r.act, .int .i64 r.what, .slice B r.fs.length c2], .agg #[.int .i64 t.k, .int .i64 t.n, .string t.s, .slice C t.ps.length ct], .int .i64 stop] w fun e w' => e = .returned (evVal (evEither (ev (m + 1) W r (exAt t.ps 0)) (ev (m + 1) W r (exAt t.ps 1)) stop)) ∧ Below w.heap.size w w' := by
  obtain ⟨X, hX⟩ : ∃ X, X = ((w.alloc (.cells #[.int .i64 r.who, .int .i64 r.act, .int .i64 r.what, .slice B r.fs.length c2] 37)).alloc (.cells #[.int .i64 t.k, .int .i64 t.n, .string t.s, .slice C t.ps.length ct] 28)).alloc (.cells #[.int .i64 0, .int .i64 0] 79) := ⟨_, rfl⟩
  obtain ⟨g, hgg⟩ : ∃ g, g = w.heap.size := ⟨_, rfl⟩
  have hB : Below w.heap.size w X := by rw [hX]; (repeat (first | exact Below.refl _ _ | refine ext_alloc ?_ _ | refine Below.setCell ?_ (by simp) _))
  have hq1 : X.heap[g]? = some (.cells #[.int .i64 r.who, .int .i64 r.act, .int .i64 r.what, .slice B r.fs.length c2] 37 (0, 0)) := by rw [hX, hgg]; exact block_in (block_in (heap_alloc_new _ _) (below_alloc _ _)) (below_alloc _ _)
  have hq2 : X.heap[g + 1]? = some (.cells #[.int .i64 t.k, .int .i64 t.n, .string t.s, .slice C t.ps.length ct] 28 (0, 0)) := by rw [hX, hgg]; exact block_in (heap_alloc_at (by simp)) (below_alloc _ _)
  have hq3 : X.heap[g + 1 + 1]? = some (.cells #[.int .i64 0, .int .i64 0] 79 (0, 0)) := by rw [hX, hgg]; exact heap_alloc_at (by simp)
  replace hW := hW.below hB
  replace hR := hR.below hB
  replace hU := hU.below hB
  have hlW := hW.len
  have hlR := hR.len
  have hGB : w.heap.size ≤ g + 1 + 1 ∧ g + 1 + 1 < X.heap.size := ⟨by omega, by rw [hX, hgg]; simp⟩
  have HX := Lib.hid hX
  have HG := Lib.hid hgg
  have HQ1 := Lib.hid hq1
  have HQ2 := Lib.hid hq2
  have HQ3 := Lib.hid hq3
  have HGB := Lib.hid hGB
  have HB := Lib.hid hB
  obtain ⟨p0, p1, p2, p3⟩ := cells4 hq1
  obtain ⟨q0, q1, q2, q3⟩ := cells4 hq2
  obtain ⟨z0, z1⟩ := cells2 hq3
  obtain ⟨f0, f1⟩ := froz2 hq3
  clear hX hgg hq1 hq2 hq3 hB hGB
  have hg0 := gd_part hg (k := 0) (by omega)
  have hg1 := gd_part hg (k := 1) (by omega)
  obtain ⟨va, hva⟩ : ∃ v, ev (m + 1) W r (exAt t.ps 0) = v := ⟨_, rfl⟩
  obtain ⟨vb, hvb⟩ : ∃ v, ev (m + 1) W r (exAt t.ps 1) = v := ⟨_, rfl⟩
  have HA : Hid (∀ (Y : World) (C' : Option Addr) (c' : Nat), Below X.heap.size X Y → exW m Y C' (exAt t.ps 0).ps → Calls Try.prog 95 #[.slice A W.length c, .agg #[.int .i64 r.who, .int .i64 r.act, .int .i64 r.what, .slice B r.fs.length c2], .agg #[.int .i64 (exAt t.ps 0).k, .int .i64 (exAt t.ps 0).n, .string (exAt t.ps 0).s, .slice C' (exAt t.ps 0).ps.length c']] Y fun e w' => e = .returned (evVal va) ∧ Below Y.heap.size Y w') := Lib.hid (fun Y C' c' hb h => hva ▸ hQ W r A B C' c c2 c' _ Y (hW.below hb) (hR.below hb) h hO hg0)
  have HC : Hid (∀ (Y : World) (C' : Option Addr) (c' : Nat), Below X.heap.size X Y → exW m Y C' (exAt t.ps 1).ps → Calls Try.prog 95 #[.slice A W.length c, .agg #[.int .i64 r.who, .int .i64 r.act, .int .i64 r.what, .slice B r.fs.length c2], .agg #[.int .i64 (exAt t.ps 1).k, .int .i64 (exAt t.ps 1).n, .string (exAt t.ps 1).s, .slice C' (exAt t.ps 1).ps.length c']] Y fun e w' => e = .returned (evVal vb) ∧ Below Y.heap.size Y w') := Lib.hid (fun Y C' c' hb h => hvb ▸ hQ W r A B C' c c2 c' _ Y (hW.below hb) (hR.below hb) h hO hg1)
  have hv0 := ev_val hO (m + 1) _ hg0
  have hzb := ev_zero (m + 1) W r (exAt t.ps 1)
  rw [hva] at hv0 ⊢
  rw [hvb] at hzb ⊢
  obtain ⟨xa, ya, fa⟩ := va
  obtain ⟨xb, yb, fb⟩ := vb
  unfold evVal at HA HC
  obtain ⟨res, hres⟩ : ∃ v, evEither (xa, ya, fa) (xb, yb, fb) stop = v := ⟨_, rfl⟩
  have HF0 : Hid (fa ≠ 0 → res = (0, 0, fa)) := Lib.hid (fun h => by
    have e : evK (xa, ya, fa) 1 = (xa, ya, fa) := by unfold evK; rw [if_neg (fun q => h q.1)]
    rw [← hres, evEither, e, if_pos h]; rfl)
  have HFK : Hid (fa = 0 → xa ≠ 1 → res = (0, 0, 1)) := Lib.hid (fun h h2 => by
    have e : evK (xa, ya, fa) 1 = (0, 0, 1) := by unfold evK; rw [if_pos ⟨h, h2⟩]
    rw [← hres, evEither, e]; rfl)
  have hka : fa = 0 → xa = 1 → evK (xa, ya, fa) 1 = (xa, ya, fa) := fun h h2 => by unfold evK; rw [if_neg (fun q => q.2 h2)]
  have HFS : Hid (fa = 0 → xa = 1 → ya = stop → res = (xa, ya, 0)) := Lib.hid (fun h h2 h3 => by rw [← hres, evEither, hka h h2, if_neg (by simpa using h), if_pos h3, h])
  have HFB : Hid (fa = 0 → xa = 1 → ya ≠ stop → fb ≠ 0 → res = (0, 0, fb)) := Lib.hid (fun h h2 h3 h4 => by
    rw [← hres, evEither, hka h h2, if_neg (by simpa using h), if_neg h3]
    obtain ⟨q1, q2⟩ := hzb h4
    have q1 : xb = 0 := q1
    have q2 : yb = 0 := q2
    unfold evK; rw [if_neg (fun q => h4 q.1), q1, q2])
  have HFC : Hid (fa = 0 → xa = 1 → ya ≠ stop → fb = 0 → xb ≠ 1 → res = (0, 0, 1)) := Lib.hid (fun h h2 h3 h4 h5 => by
    rw [← hres, evEither, hka h h2, if_neg (by simpa using h), if_neg h3]
    unfold evK; rw [if_pos ⟨h4, h5⟩])
  have HFD2 : Hid (fa = 0 → xa = 1 → ya ≠ stop → fb = 0 → xb = 1 → res = (xb, yb, 0)) := Lib.hid (fun h h2 h3 h4 h5 => by
    rw [← hres, evEither, hka h h2, if_neg (by simpa using h), if_neg h3]
    unfold evK; rw [if_neg (fun q => q.2 h5), h4])
  rw [hres]
  obtain ⟨b, off, A3, c3, A4, c4, rfl, hfd, hfe, ⟨a0, a1, a2, a3⟩, ⟨b0, b1, b2, b3⟩⟩ := ex_two hU hn
  have hlt0 : 0 < t.ps.length := by omega
  have hlt1 : 1 < t.ps.length := by omega
  have hlm : t.ps.length ≤ 9223372036854775807 := by omega
  have hi1 : (1 : Int) < t.ps.length := by omega
  have HFD := Lib.hid hfd
  have HFE := Lib.hid hfe
  clear hQ hva hvb hO hg hg0 hg1 hn hU hfd hfe hW hR hv0 hzb hres hka hs
  go_enter Try.func140, Try.ntmps140
  go_wp2_with fail
  rw [← HX.out, ← HG.out]
  refine wp_region_nbox X 79 2 10 11 10 #[.int .i64 xa, .int .i64 ya] (fun i wz vz => match i with | 10 => BoxV X 79 2 wz vz | 0 => vz = .slice A W.length c | 1 => vz = .agg #[.int .i64 r.who, .int .i64 r.act, .int .i64 r.what, .slice B r.fs.length c2] | 2 => vz = .pointer (some ⟨g + 1, 3, Option.none⟩) | 3 => vz = .slice (some ⟨b, off, none⟩) t.ps.length ct | 4 => vz = .pointer (some ⟨b, off, Option.none⟩) | 5 => vz = .agg #[.int .i64 (exAt t.ps 0).k, .int .i64 (exAt t.ps 0).n, .string (exAt t.ps 0).s, .slice A3 (exAt t.ps 0).ps.length c3] | 6 => vz = .tuple #[.agg #[.int .i64 xa, .int .i64 ya], .int .i64 fa] | 7 => vz = .tuple #[.agg #[.int .i64 xa, .int .i64 ya], .int .i64 fa] | 8 => vz = .agg #[.int .i64 xa, .int .i64 ya] | 9 => vz = .int .i64 fa | 12 => vz = .int .i64 fa | _ => True) (by kernel_rfl) (by kernel_rfl) (by kernel_rfl) rfl (by kernel_rfl) (fun _ _ h => h) (fun _ _ h => h) ?stab1 ?all1 (by decide) ?fin1
  case stab1 =>
    intro i wa wb v hne hT
    match i, hne, hT with
    | 0, _, hT => exact hT
    | 1, _, hT => exact hT
    | 2, _, hT => exact hT
    | 3, _, hT => exact hT
    | 4, _, hT => exact hT
    | 5, _, hT => exact hT
    | 6, _, hT => exact hT
    | 7, _, hT => exact hT
    | 8, _, hT => exact hT
    | 9, _, hT => exact hT
    | 12, _, hT => exact hT
    | 10, hne, _ => exact absurd rfl hne
    | 11, _, _ => trivial
    | n + 13, _, _ => trivial
  case all1 =>
    refine RAllL.cons rfl ?_ (RAllL.cons rfl ?_ (RAllL.cons rfl ?_ (RAllL.cons rfl ?_ (RAllL.cons rfl ?_ (RAllL.cons rfl ?_ (RAllL.cons rfl ?_ (RAllL.cons rfl ?_ (RAllL.cons rfl ?_ (RAllL.cons rfl ?_ (RAllL.cons rfl ?_ (RAllL.cons rfl ?_ (RAllL.cons rfl ?_ (RAllL.none_)))))))))))))
    · intro a kq_ wa K Q _ hI0 hp hK0
      have hI : Below X.heap.size X wa := hI0
      have hK := fun v w' h1 (h2 : Below wa.heap.size wa w') (h3 : Below X.heap.size X w') => hK0 v w' h1 (RelB.of_below h2) h3 (fun e => absurd e (by decide))
      exact op_move _ (.inl rfl) (hK _ _ (hp.keep 0 (by kernel_rfl)) (Below.refl _ _) hI)
    · intro a kq_ wa K Q _ hI0 hp hK0
      have hI : Below X.heap.size X wa := hI0
      have hK := fun v w' h1 (h2 : Below wa.heap.size wa w') (h3 : Below X.heap.size X w') => hK0 v w' h1 (RelB.of_below h2) h3 (fun e => absurd e (by decide))
      have e5 := tmp_of (show a.eval (.tmp 5) = .pointer (some ⟨g, 0, none⟩) from hp.keep 5 (by kernel_rfl))
      have p0_ := below_cell hI p0
      have p1_ := below_cell hI p1
      have p2_ := below_cell hI p2
      have p3_ := below_cell hI p3
      go_simp
      exact hK _ _ rfl (Below.refl _ _) hI
    · intro a kq_ wa K Q _ hI0 hp hK0
      have hI : Below X.heap.size X wa := hI0
      have hK := fun v w' h1 (h2 : Below wa.heap.size wa w') (h3 : Below X.heap.size X w') => hK0 v w' h1 (RelB.of_below h2) h3 (fun e => absurd e (by decide))
      have e6 := tmp_of (show a.eval (.tmp 6) = .pointer (some ⟨g + 1, 0, none⟩) from hp.keep 6 (by kernel_rfl))
      go_simp
      exact hK _ _ rfl (Below.refl _ _) hI
    · intro a kq_ wa K Q _ hI0 hp hK0
      have hI : Below X.heap.size X wa := hI0
      have hK := fun v w' h1 (h2 : Below wa.heap.size wa w') (h3 : Below X.heap.size X w') => hK0 v w' h1 (RelB.of_below h2) h3 (fun e => absurd e (by decide))
      have e17 := tmp_of (show a.eval (.tmp 17) = .pointer (some ⟨g + 1, 3, Option.none⟩) from hp.dep 2 17 (by kernel_rfl))
      have q3_ := below_cell hI q3
      go_simp
      exact hK _ _ rfl (Below.refl _ _) hI
    · intro a kq_ wa K Q _ hI0 hp hK0
      have hI : Below X.heap.size X wa := hI0
      have hK := fun v w' h1 (h2 : Below wa.heap.size wa w') (h3 : Below X.heap.size X w') => hK0 v w' h1 (RelB.of_below h2) h3 (fun e => absurd e (by decide))
      have e18 := tmp_of (show a.eval (.tmp 18) = .slice (some ⟨b, off, none⟩) t.ps.length ct from hp.dep 3 18 (by kernel_rfl))
      go_simp
      exact hK _ _ rfl (Below.refl _ _) hI
    · intro a kq_ wa K Q _ hI0 hp hK0
      have hI : Below X.heap.size X wa := hI0
      have hK := fun v w' h1 (h2 : Below wa.heap.size wa w') (h3 : Below X.heap.size X w') => hK0 v w' h1 (RelB.of_below h2) h3 (fun e => absurd e (by decide))
      have e19 := tmp_of (show a.eval (.tmp 19) = .pointer (some ⟨b, off, Option.none⟩) from hp.dep 4 19 (by kernel_rfl))
      have a0_ := below_cell hI a0
      have a1_ := below_cell hI a1
      have a2_ := below_cell hI a2
      have a3_ := below_cell hI a3
      go_simp
      exact hK _ _ rfl (Below.refl _ _) hI
    · intro a kq_ wa K Q _ hI0 hp hK0
      have hI : Below X.heap.size X wa := hI0
      have hK := fun v w' h1 (h2 : Below wa.heap.size wa w') (h3 : Below X.heap.size X w') => hK0 v w' h1 (RelB.of_below h2) h3 (fun e => absurd e (by decide))
      have e15 := tmp_of (show a.eval (.tmp 15) = .slice A W.length c from hp.dep 0 15 (by kernel_rfl))
      have e16 := tmp_of (show a.eval (.tmp 16) = .agg #[.int .i64 r.who, .int .i64 r.act, .int .i64 r.what, .slice B r.fs.length c2] from hp.dep 1 16 (by kernel_rfl))
      have e20 := tmp_of (show a.eval (.tmp 20) = .agg #[.int .i64 (exAt t.ps 0).k, .int .i64 (exAt t.ps 0).n, .string (exAt t.ps 0).s, .slice A3 (exAt t.ps 0).ps.length c3] from hp.dep 5 20 (by kernel_rfl))
      go_simp
      refine (HA.out _ _ _ hI (HFD.out.below hI)).mono ?_
      rintro e wb ⟨rfl, hb⟩
      exact hK _ _ (show _ = (.tuple #[.agg #[.int .i64 xa, .int .i64 ya], .int .i64 fa] : Value) from rfl) hb (ext_trans hI hb)
    · intro a kq_ wa K Q _ hI0 hp hK0
      have hI : Below X.heap.size X wa := hI0
      have hK := fun v w' h1 (h2 : Below wa.heap.size wa w') (h3 : Below X.heap.size X w') => hK0 v w' h1 (RelB.of_below h2) h3 (fun e => absurd e (by decide))
      exact op_move _ (.inl rfl) (hK _ _ (hp.dep 6 21 (by kernel_rfl)) (Below.refl _ _) hI)
    · intro a kq_ wa K Q _ hI0 hp hK0
      have hI : Below X.heap.size X wa := hI0
      have hK := fun v w' h1 (h2 : Below wa.heap.size wa w') (h3 : Below X.heap.size X w') => hK0 v w' h1 (RelB.of_below h2) h3 (fun e => absurd e (by decide))
      have e14 := tmp_of (show a.eval (.tmp 14) = .tuple #[.agg #[.int .i64 xa, .int .i64 ya], .int .i64 fa] from hp.dep 7 14 (by kernel_rfl))
      go_simp
      exact hK _ _ rfl (Below.refl _ _) hI
    · intro a kq_ wa K Q _ hI0 hp hK0
      have hI : Below X.heap.size X wa := hI0
      have hK := fun v w' h1 (h2 : Below wa.heap.size wa w') (h3 : Below X.heap.size X w') => hK0 v w' h1 (RelB.of_below h2) h3 (fun e => absurd e (by decide))
      have e14 := tmp_of (show a.eval (.tmp 14) = .tuple #[.agg #[.int .i64 xa, .int .i64 ya], .int .i64 fa] from hp.dep 7 14 (by kernel_rfl))
      go_simp
      exact hK _ _ rfl (Below.refl _ _) hI
    · intro a kq_ wa K Q _ hI0 hp hK0
      have hI : Below X.heap.size X wa := hI0
      have hK := fun v w' h1 (h2 : Below wa.heap.size wa w') (h3 : Below X.heap.size X w') => hK0 v w' h1 (RelB.of_below h2) h3 (fun e => absurd e (by decide))
      go_simp
      exact hK _ _ ⟨_, rfl, hI.size, _, heap_alloc_new _ _, rfl⟩ (below_alloc _ _) (ext_alloc hI _)
    · intro a kq_ wa K Q _ hI0 hp hK0
      have hI : Below X.heap.size X wa := hI0
      obtain ⟨g8, eB, hgB, cs8, hg8, hcs8⟩ := (show BoxV X 79 2 wa (a.eval (.tmp 10)) from hp.base (by kernel_rfl))
      have eB2 := tmp_of eB
      have e22 := tmp_of (show a.eval (.tmp 22) = .agg #[.int .i64 xa, .int .i64 ya] from hp.dep 8 22 (by kernel_rfl))
      obtain ⟨hr8, hb8, hg9⟩ := nbox_put (N := 11) (.int .i64 xa) (.int .i64 ya) hgB hg8 hcs8 hI
      obtain ⟨c80, c81, d80, d81, f80, f81⟩ := nbox_cells hg8 hcs8
      go_simp
      exact hK0 (.tuple #[]) _ trivial hr8 hb8 (fun _ => ⟨g8, eB, hgB, hg9⟩)
    · intro a kq_ wa K Q _ hI0 hp hK0
      have hI : Below X.heap.size X wa := hI0
      have hK := fun v w' h1 (h2 : Below wa.heap.size wa w') (h3 : Below X.heap.size X w') => hK0 v w' h1 (RelB.of_below h2) h3 (fun e => absurd e (by decide))
      exact op_move _ (.inr rfl) (hK _ _ (hp.dep 9 23 (by kernel_rfl)) (Below.refl _ _) hI)
  case fin1 =>
    intro f w2 hT hBx hI0
    have hI : Below X.heap.size X w2 := hI0
    have hr : (f 12) = .int .i64 fa := hT 12 (by decide) rfl
    clear hT hI0
    obtain ⟨ga, eA, hgA, hqA⟩ := hBx
    simp only [putAll, eA, hr]
    have HB2 := Lib.hid (ext_trans HB.out hI)
    have HI2 := Lib.hid hI
    have HQ3 := Lib.hid (block_in HQ3.out hI)
    clear z0 z1 f0 f1 p0 p1 p2 p3 q0 q1 q2 q3
    obtain ⟨p0, p1, p2, p3⟩ := cells4 (block_in HQ1.out hI)
    obtain ⟨q0, q1, q2, q3⟩ := cells4 (block_in HQ2.out hI)
    obtain ⟨u0, u1⟩ := cells2 hqA
    obtain ⟨z0, z1⟩ := cells2 HQ3.out
    obtain ⟨f0, f1⟩ := froz2 HQ3.out
    have HFE := Lib.hid (HFE.out.below hI)
    have hga : ga ≠ g + 1 + 1 := by have := HGB.out.2; omega
    have hga2 := Ne.symm hga
    replace b0 := below_cell hI b0
    replace b1 := below_cell hI b1
    replace b2 := below_cell hI b2
    replace b3 := below_cell hI b3
    clear hr eA hqA a0 a1 a2 a3 hI
    go_simp
    by_cases e1 : fa = 0
    · have gb : (fa != 0) = false := by simpa using e1
      by_cases e2 : xa = 1
      · have gx : (xa != 1) = false := by simpa using e2
        by_cases e3 : ya = stop
        · have gy : (ya == stop) = true := by simpa using e3
          have HE := Lib.hid (HFS.out e1 e2 e3)
          clear e1 e2 e3 b0 b1 b2 b3 p0 p1 p2 p3 q0 q1 q2 q3
          go_wp2
          obtain ⟨r0, r1⟩ := cells2 (box_put (.int .i64 (xa)) (.int .i64 (ya)) HQ3.out rfl)
          exact bodyPost_ret (v := .tuple #[.agg #[.int .i64 (xa), .int .i64 (ya)], .int .i64 (0)]) (by simp [results, go_sem, r0, r1]) rfl ⟨by rw [HE.out]; rfl, box_put_below _ _ HGB.out.1 HB2.out⟩
        · have gy : (ya == stop) = false := by simpa using e3
          go_wp2
          refine wp_region_nbox w2 79 2 10 11 12 #[.int .i64 xb, .int .i64 yb] (fun i wz vz => match i with | 10 => BoxV w2 79 2 wz vz | 0 => vz = .slice A W.length c | 1 => vz = .agg #[.int .i64 r.who, .int .i64 r.act, .int .i64 r.what, .slice B r.fs.length c2] | 2 => vz = .pointer (some ⟨g + 1, 3, Option.none⟩) | 3 => vz = .slice (some ⟨b, off, none⟩) t.ps.length ct | 4 => vz = .pointer (some ⟨b, off + 4, Option.none⟩) | 5 => vz = .agg #[.int .i64 (exAt t.ps 1).k, .int .i64 (exAt t.ps 1).n, .string (exAt t.ps 1).s, .slice A4 (exAt t.ps 1).ps.length c4] | 6 => vz = .tuple #[.agg #[.int .i64 xb, .int .i64 yb], .int .i64 fb] | 7 => vz = .tuple #[.agg #[.int .i64 xb, .int .i64 yb], .int .i64 fb] | 8 => vz = .agg #[.int .i64 xb, .int .i64 yb] | 9 => vz = .int .i64 fb | 12 => vz = .int .i64 fb | _ => True) (by kernel_rfl) (by kernel_rfl) (by kernel_rfl) rfl (by kernel_rfl) (fun _ _ h => h) (fun _ _ h => h) ?stab8 ?all8 (by decide) ?fin8
          case stab8 =>
            intro i wa wb v hne hT
            match i, hne, hT with
            | 0, _, hT => exact hT
            | 1, _, hT => exact hT
            | 2, _, hT => exact hT
            | 3, _, hT => exact hT
            | 4, _, hT => exact hT
            | 5, _, hT => exact hT
            | 6, _, hT => exact hT
            | 7, _, hT => exact hT
            | 8, _, hT => exact hT
            | 9, _, hT => exact hT
            | 12, _, hT => exact hT
            | 10, hne, _ => exact absurd rfl hne
            | 11, _, _ => trivial
            | n + 13, _, _ => trivial
          case all8 =>
            refine RAllL.cons rfl ?_ (RAllL.cons rfl ?_ (RAllL.cons rfl ?_ (RAllL.cons rfl ?_ (RAllL.cons rfl ?_ (RAllL.cons rfl ?_ (RAllL.cons rfl ?_ (RAllL.cons rfl ?_ (RAllL.cons rfl ?_ (RAllL.cons rfl ?_ (RAllL.cons rfl ?_ (RAllL.cons rfl ?_ (RAllL.cons rfl ?_ (RAllL.none_)))))))))))))
            · intro a kq_ wa K Q _ hI0 hp hK0
              have hI : Below w2.heap.size w2 wa := hI0
              have hK := fun v w' h1 (h2 : Below wa.heap.size wa w') (h3 : Below w2.heap.size w2 w') => hK0 v w' h1 (RelB.of_below h2) h3 (fun e => absurd e (by decide))
              exact op_move _ (.inl rfl) (hK _ _ (hp.keep 0 (by kernel_rfl)) (Below.refl _ _) hI)
            · intro a kq_ wa K Q _ hI0 hp hK0
              have hI : Below w2.heap.size w2 wa := hI0
              have hK := fun v w' h1 (h2 : Below wa.heap.size wa w') (h3 : Below w2.heap.size w2 w') => hK0 v w' h1 (RelB.of_below h2) h3 (fun e => absurd e (by decide))
              have e5 := tmp_of (show a.eval (.tmp 5) = .pointer (some ⟨g, 0, none⟩) from hp.keep 5 (by kernel_rfl))
              have p0_ := below_cell hI p0
              have p1_ := below_cell hI p1
              have p2_ := below_cell hI p2
              have p3_ := below_cell hI p3
              go_simp
              exact hK _ _ rfl (Below.refl _ _) hI
            · intro a kq_ wa K Q _ hI0 hp hK0
              have hI : Below w2.heap.size w2 wa := hI0
              have hK := fun v w' h1 (h2 : Below wa.heap.size wa w') (h3 : Below w2.heap.size w2 w') => hK0 v w' h1 (RelB.of_below h2) h3 (fun e => absurd e (by decide))
              have e6 := tmp_of (show a.eval (.tmp 6) = .pointer (some ⟨g + 1, 0, none⟩) from hp.keep 6 (by kernel_rfl))
              go_simp
              exact hK _ _ rfl (Below.refl _ _) hI
            · intro a kq_ wa K Q _ hI0 hp hK0
              have hI : Below w2.heap.size w2 wa := hI0
              have hK := fun v w' h1 (h2 : Below wa.heap.size wa w') (h3 : Below w2.heap.size w2 w') => hK0 v w' h1 (RelB.of_below h2) h3 (fun e => absurd e (by decide))
              have e40 := tmp_of (show a.eval (.tmp 40) = .pointer (some ⟨g + 1, 3, Option.none⟩) from hp.dep 2 40 (by kernel_rfl))
              have q3_ := below_cell hI q3
              go_simp
              exact hK _ _ rfl (Below.refl _ _) hI
            · intro a kq_ wa K Q _ hI0 hp hK0
              have hI : Below w2.heap.size w2 wa := hI0
              have hK := fun v w' h1 (h2 : Below wa.heap.size wa w') (h3 : Below w2.heap.size w2 w') => hK0 v w' h1 (RelB.of_below h2) h3 (fun e => absurd e (by decide))
              have e41 := tmp_of (show a.eval (.tmp 41) = .slice (some ⟨b, off, none⟩) t.ps.length ct from hp.dep 3 41 (by kernel_rfl))
              go_simp
              exact hK _ _ rfl (Below.refl _ _) hI
            · intro a kq_ wa K Q _ hI0 hp hK0
              have hI : Below w2.heap.size w2 wa := hI0
              have hK := fun v w' h1 (h2 : Below wa.heap.size wa w') (h3 : Below w2.heap.size w2 w') => hK0 v w' h1 (RelB.of_below h2) h3 (fun e => absurd e (by decide))
              have e42 := tmp_of (show a.eval (.tmp 42) = .pointer (some ⟨b, off + 4, Option.none⟩) from hp.dep 4 42 (by kernel_rfl))
              have b0_ := below_cell hI b0
              have b1_ := below_cell hI b1
              have b2_ := below_cell hI b2
              have b3_ := below_cell hI b3
              go_simp
              exact hK _ _ rfl (Below.refl _ _) hI
            · intro a kq_ wa K Q _ hI0 hp hK0
              have hI : Below w2.heap.size w2 wa := hI0
              have hK := fun v w' h1 (h2 : Below wa.heap.size wa w') (h3 : Below w2.heap.size w2 w') => hK0 v w' h1 (RelB.of_below h2) h3 (fun e => absurd e (by decide))
              have e38 := tmp_of (show a.eval (.tmp 38) = .slice A W.length c from hp.dep 0 38 (by kernel_rfl))
              have e39 := tmp_of (show a.eval (.tmp 39) = .agg #[.int .i64 r.who, .int .i64 r.act, .int .i64 r.what, .slice B r.fs.length c2] from hp.dep 1 39 (by kernel_rfl))
              have e43 := tmp_of (show a.eval (.tmp 43) = .agg #[.int .i64 (exAt t.ps 1).k, .int .i64 (exAt t.ps 1).n, .string (exAt t.ps 1).s, .slice A4 (exAt t.ps 1).ps.length c4] from hp.dep 5 43 (by kernel_rfl))
              go_simp
              refine (HC.out _ _ _ (ext_trans HI2.out hI) (HFE.out.below hI)).mono ?_
              rintro e wb ⟨rfl, hb⟩
              exact hK _ _ (show _ = (.tuple #[.agg #[.int .i64 xb, .int .i64 yb], .int .i64 fb] : Value) from rfl) hb (ext_trans hI hb)
            · intro a kq_ wa K Q _ hI0 hp hK0
              have hI : Below w2.heap.size w2 wa := hI0
              have hK := fun v w' h1 (h2 : Below wa.heap.size wa w') (h3 : Below w2.heap.size w2 w') => hK0 v w' h1 (RelB.of_below h2) h3 (fun e => absurd e (by decide))
              exact op_move _ (.inl rfl) (hK _ _ (hp.dep 6 44 (by kernel_rfl)) (Below.refl _ _) hI)
            · intro a kq_ wa K Q _ hI0 hp hK0
              have hI : Below w2.heap.size w2 wa := hI0
              have hK := fun v w' h1 (h2 : Below wa.heap.size wa w') (h3 : Below w2.heap.size w2 w') => hK0 v w' h1 (RelB.of_below h2) h3 (fun e => absurd e (by decide))
              have e37 := tmp_of (show a.eval (.tmp 37) = .tuple #[.agg #[.int .i64 xb, .int .i64 yb], .int .i64 fb] from hp.dep 7 37 (by kernel_rfl))
              go_simp
              exact hK _ _ rfl (Below.refl _ _) hI
            · intro a kq_ wa K Q _ hI0 hp hK0
              have hI : Below w2.heap.size w2 wa := hI0
              have hK := fun v w' h1 (h2 : Below wa.heap.size wa w') (h3 : Below w2.heap.size w2 w') => hK0 v w' h1 (RelB.of_below h2) h3 (fun e => absurd e (by decide))
              have e37 := tmp_of (show a.eval (.tmp 37) = .tuple #[.agg #[.int .i64 xb, .int .i64 yb], .int .i64 fb] from hp.dep 7 37 (by kernel_rfl))
              go_simp
              exact hK _ _ rfl (Below.refl _ _) hI
            · intro a kq_ wa K Q _ hI0 hp hK0
              have hI : Below w2.heap.size w2 wa := hI0
              have hK := fun v w' h1 (h2 : Below wa.heap.size wa w') (h3 : Below w2.heap.size w2 w') => hK0 v w' h1 (RelB.of_below h2) h3 (fun e => absurd e (by decide))
              go_simp
              exact hK _ _ ⟨_, rfl, hI.size, _, heap_alloc_new _ _, rfl⟩ (below_alloc _ _) (ext_alloc hI _)
            · intro a kq_ wa K Q _ hI0 hp hK0
              have hI : Below w2.heap.size w2 wa := hI0
              obtain ⟨g8, eB, hgB, cs8, hg8, hcs8⟩ := (show BoxV w2 79 2 wa (a.eval (.tmp 12)) from hp.base (by kernel_rfl))
              have eB2 := tmp_of eB
              have e45 := tmp_of (show a.eval (.tmp 45) = .agg #[.int .i64 xb, .int .i64 yb] from hp.dep 8 45 (by kernel_rfl))
              obtain ⟨hr8, hb8, hg9⟩ := nbox_put (N := 11) (.int .i64 xb) (.int .i64 yb) hgB hg8 hcs8 hI
              obtain ⟨c80, c81, d80, d81, f80, f81⟩ := nbox_cells hg8 hcs8
              go_simp
              exact hK0 (.tuple #[]) _ trivial hr8 hb8 (fun _ => ⟨g8, eB, hgB, hg9⟩)
            · intro a kq_ wa K Q _ hI0 hp hK0
              have hI : Below w2.heap.size w2 wa := hI0
              have hK := fun v w' h1 (h2 : Below wa.heap.size wa w') (h3 : Below w2.heap.size w2 w') => hK0 v w' h1 (RelB.of_below h2) h3 (fun e => absurd e (by decide))
              exact op_move _ (.inr rfl) (hK _ _ (hp.dep 9 46 (by kernel_rfl)) (Below.refl _ _) hI)
          case fin8 =>
            intro f w3 hT hBx hI0
            have hI : Below w2.heap.size w2 w3 := hI0
            have hr : (f 12) = .int .i64 fb := hT 12 (by decide) rfl
            clear hT hI0
            obtain ⟨gb2, eB, hgB, hqB⟩ := hBx
            simp only [putAll, eB, hr]
            have HB3 := Lib.hid (ext_trans HB2.out hI)
            have HQ3 := Lib.hid (block_in HQ3.out hI)
            clear z0 z1 f0 f1 u0 u1 p0 p1 p2 p3 q0 q1 q2 q3
            obtain ⟨v0, v1⟩ := cells2 hqB
            obtain ⟨z0, z1⟩ := cells2 HQ3.out
            obtain ⟨f0, f1⟩ := froz2 HQ3.out
            have hgb : gb2 ≠ g + 1 + 1 := by have := HGB.out.2; have := HI2.out.size; omega
            have hgb2 := Ne.symm hgb
            clear hr eB hqB b0 b1 b2 b3 hI
            go_simp
            by_cases e4 : fb = 0
            · have gc : (fb != 0) = false := by simpa using e4
              by_cases e5 : xb = 1
              · have gd : (xb != 1) = false := by simpa using e5
                have HE := Lib.hid (HFD2.out e1 e2 e3 e4 e5)
                clear e1 e2 e3 e4 e5
                go_wp2
                obtain ⟨r0, r1⟩ := cells2 (box_put (.int .i64 (xb)) (.int .i64 (yb)) HQ3.out rfl)
                exact bodyPost_ret (v := .tuple #[.agg #[.int .i64 (xb), .int .i64 (yb)], .int .i64 (0)]) (by simp [results, go_sem, r0, r1]) rfl ⟨by rw [HE.out]; rfl, box_put_below _ _ HGB.out.1 HB3.out⟩
              · have gd : (xb != 1) = true := by simpa using e5
                have HE := Lib.hid (HFC.out e1 e2 e3 e4 e5)
                clear e1 e2 e3 e4 e5
                go_wp2
                obtain ⟨r0, r1⟩ := cells2 (box_put (.int .i64 (0)) (.int .i64 (0)) HQ3.out rfl)
                exact bodyPost_ret (v := .tuple #[.agg #[.int .i64 (0), .int .i64 (0)], .int .i64 (1)]) (by simp [results, go_sem, r0, r1]) rfl ⟨by rw [HE.out]; rfl, box_put_below _ _ HGB.out.1 HB3.out⟩
            · have gc : (fb != 0) = true := by simpa using e4
              have HE := Lib.hid (HFB.out e1 e2 e3 e4)
              clear e1 e2 e3 e4
              go_wp2
              obtain ⟨r0, r1⟩ := cells2 (box_put (.int .i64 (0)) (.int .i64 (0)) HQ3.out rfl)
              exact bodyPost_ret (v := .tuple #[.agg #[.int .i64 (0), .int .i64 (0)], .int .i64 (fb)]) (by simp [results, go_sem, r0, r1]) rfl ⟨by rw [HE.out]; rfl, box_put_below _ _ HGB.out.1 HB3.out⟩
      · have gx : (xa != 1) = true := by simpa using e2
        have HE := Lib.hid (HFK.out e1 e2)
        clear e1 e2 b0 b1 b2 b3 p0 p1 p2 p3 q0 q1 q2 q3
        go_wp2
        obtain ⟨r0, r1⟩ := cells2 (box_put (.int .i64 (0)) (.int .i64 (0)) HQ3.out rfl)
        exact bodyPost_ret (v := .tuple #[.agg #[.int .i64 (0), .int .i64 (0)], .int .i64 (1)]) (by simp [results, go_sem, r0, r1]) rfl ⟨by rw [HE.out]; rfl, box_put_below _ _ HGB.out.1 HB2.out⟩
    · have gb : (fa != 0) = true := by simpa using e1
      have HE := Lib.hid (HF0.out e1)
      clear e1 b0 b1 b2 b3 p0 p1 p2 p3 q0 q1 q2 q3
      go_wp2
      obtain ⟨r0, r1⟩ := cells2 (box_put (.int .i64 (0)) (.int .i64 (0)) HQ3.out rfl)
      exact bodyPost_ret (v := .tuple #[.agg #[.int .i64 (0), .int .i64 (0)], .int .i64 (fa)]) (by simp [results, go_sem, r0, r1]) rfl ⟨by rw [HE.out]; rfl, box_put_below _ _ HGB.out.1 HB2.out⟩
end Go.Proofs.Ytodjokdaofefdaa
