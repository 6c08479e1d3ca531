/- Clone and DeleteFunc, at visits. -/
import Derived.Test.YtflhmkpabhedjaaViG
namespace Go.Proofs.Ytflhmkpabhedjaa
open Go.RowKit

set_option maxHeartbeats 1000000 in
theorem clone_any {A : Option Addr} {l : ViL} {c : Nat} {w : World} (hU : viR w A l) (hA : A = Option.none → l = []) (hn : l.length ≤ 4194304) :
    Calls Try.prog 46 #[.slice A l.length c] w (SlPost 38 3 viEnc w l) := by
  cases A with
  | none =>
    obtain rfl := hA rfl
    have hnil := fun (w : World) => Lib.run_eql_slice_nil (P := Try.prog) w 29 38 Option.none 0 c 0 0 Try.underlying29
    go_enter Try.func46, Try.ntmps46
    go_wp2
    go_ret
    exact SlPost.of rfl OwnA.nil (Below.refl _ _)
  | some a =>
    have hnil := fun (w : World) => Lib.run_eql_slice_nil (P := Try.prog) w 29 38 (some a) l.length c 0 0 Try.underlying29
    have hB := below_alloc w (.cells #[] 38)
    have hO : OwnA w.heap.size 38 3 viEnc (w.alloc (.cells #[] 38)) (.slice (some ⟨w.heap.size, 0, none⟩) 0 0) ([] : ViL) := OwnA.empty (Nat.le_refl _)
    go_enter Try.func46, Try.ntmps46
    go_wp2_with (at_builtin; go_must (refine wpList_pushes (enc := viEnc) rfl (.tmp 5) (.tmp 6) 29 38 _ 3 24 rfl Try.underlying29 Try.infoVisit rfl (by decide) (fun _ => rfl) viEnc_one hO rfl (hU.below hB) (by simp; omega) (by simp; omega) hB.size ?_); intro v_ w1 ho_ hb_ hg_)
    go_ret
    exact SlPost.of (by simp) ho_ (hB.trans hb_)

def viNot (who : Int) (v : Int × Int × Int) : Bool := decide (v.1 ≠ who)
theorem viNot_at {who : Int} {l : ViL} {k : Nat} (hk : k < l.length) : viNot who l[k] = !viIs who l k := by
  rw [viNot, viIs, ← vi_elem hk]; simp
theorem filter_none {who : Int} {l : ViL} (h : ∀ j, j < l.length → viIs who l j = false) : l.filter (viNot who) = l := by
  refine List.filter_eq_self.2 fun v hv => ?_
  obtain ⟨k, hk, rfl⟩ := List.getElem_of_mem hv
  rw [viNot_at hk, h k hk]; rfl
theorem filter_succ {who : Int} {l : ViL} {k : Nat} (hk : k < l.length) : (l.take (k + 1)).filter (viNot who) = if viIs who l k = true then (l.take k).filter (viNot who) else (l.take k).filter (viNot who) ++ [l[k]] := by
  rw [List.take_succ_eq_append_getElem hk, List.filter_append]
  have := viNot_at (who := who) hk
  cases h : viIs who l k <;> simp [h] at this <;> simp [this]
/-- The row while it is cut. -/
structure Cutting (who : Int) (l m : ViL) (i j : Nat) : Prop where
  len : m.length = l.length
  low : i < j
  head : m.take i = (l.take j).filter (viNot who)
  tail : m.drop j = l.drop j
theorem Cutting.start {who : Int} {l : ViL} {k : Nat} (hk : k < l.length) (h1 : viIs who l k = true) (h2 : ∀ j, j < k → viIs who l j = false) : Cutting who l l k (k + 1) := by
  refine ⟨rfl, by omega, ?_, rfl⟩
  rw [filter_succ hk, if_pos h1]
  refine (filter_none (fun j hj => ?_)).symm
  have hjk : j < k := by simp at hj; omega
  have : viIs who (l.take k) j = viIs who l j := by simp [viIs, vi0, List.getD_eq_getElem?_getD, List.getElem?_take_of_lt hjk]
  rw [this]; exact h2 j hjk
theorem Cutting.at {who : Int} {l m : ViL} {i j : Nat} (h : Cutting who l m i j) (hj : j < l.length) : ∃ h1 : j < m.length, m[j] = l[j] := by
  have h1 : j < m.length := by rw [h.len]; exact hj
  refine ⟨h1, ?_⟩
  have := congrArg (fun x => x[0]?) h.tail
  simpa [List.getElem?_drop, h1, hj] using this
theorem Cutting.gone {who : Int} {l m : ViL} {i j : Nat} (h : Cutting who l m i j) (hj : j < l.length) (hp : viIs who l j = true) : Cutting who l m i (j + 1) := by
  refine ⟨h.len, by have := h.low; omega, ?_, ?_⟩
  · rw [filter_succ hj, if_pos hp]; exact h.head
  · rw [← List.drop_drop, ← List.drop_drop, h.tail]
theorem Cutting.kept {who : Int} {l m : ViL} {i j : Nat} (h : Cutting who l m i j) (hj : j < l.length) (hp : viIs who l j = false) : Cutting who l (m.set i l[j]) (i + 1) (j + 1) := by
  have hlow := h.low
  have hlen := h.len
  refine ⟨by rw [List.length_set]; exact hlen, by omega, ?_, ?_⟩
  · rw [filter_succ hj, if_neg (by rw [hp]; simp), ← h.head, List.take_succ_eq_append_getElem (by rw [List.length_set]; omega), List.take_set_of_le (Nat.le_refl _)]
    simp
  · rw [List.drop_set_of_lt (by omega), ← List.drop_drop, ← List.drop_drop, h.tail]
theorem Cutting.done {who : Int} {l m : ViL} {i : Nat} (h : Cutting who l m i l.length) : m.take i = l.filter (viNot who) ∧ i = (l.filter (viNot who)).length := by
  have h1 := h.head
  rw [List.take_length] at h1
  refine ⟨h1, ?_⟩
  rw [← h1, List.length_take]
  have := h.low; have := h.len; omega

set_option maxRecDepth 100000 in
set_option maxHeartbeats 4000000 in
theorem deleteFunc_begin {B bw : Nat} {who : Int} {v : Value} {l : ViL} {w : World} (hBw : B ≤ w.heap.size) (ho : OwnA B 38 3 viEnc w v l) (hn : l.length ≤ 4194304) (hbw : w.cell? ⟨bw, 0, Option.none⟩ = some (.int .i64 who)) (hbB : bw < B) :
    Calls Try.prog 45 #[v, .func (.func 47) #[] #[.pointer (some ⟨bw, 0, Option.none⟩)]] w fun e w' => ∃ v', e = .returned v' ∧ OwnA B 38 3 viEnc w' v' (l.filter (viNot who)) ∧ Below B w w' := by
  obtain ⟨A, c, rfl, ho⟩ := ho
  have hU : viR w A l := viR.own rfl hn ho
  have hsp := own_split2 ho
  rcases firstOf_cases (p := viIs who l) l.length 0 with ⟨h1, h2⟩ | ⟨k, h1, _, h3, h4, h5⟩
  · have HE : Hid (l.filter (viNot who) = l) := Lib.hid (filter_none (fun j hj => h2 j (by omega) (by omega)))
    have HI : Hid (viIdx who l = -1) := Lib.hid h1
    clear h1 h2
    go_enter Try.func45, Try.ntmps45
    go_wp2_with fail
    refine (indexFunc_begin hU hbw).mono ?_
    rintro e w1 ⟨rfl, hBc⟩
    rw [HI.out]
    go_wp2
    go_ret
    exact ⟨_, rfl, (OwnA.below ⟨A, c, rfl, ho⟩ hBc).eq HE.out.symm, hBc.mono hBw⟩
  · have HI : Hid (viIdx who l = k) := Lib.hid h1
    have HS : Hid (Cutting who l l k (k + 1)) := Lib.hid (Cutting.start (by omega) h4 (fun j hj => h5 j (by omega) hj))
    have hk : k < l.length := by omega
    clear h1 h3 h4 h5
    obtain ⟨g, rfl, hc1, hc2⟩ : ∃ g, A = some ⟨g, 0, none⟩ ∧ l.length ≤ c ∧ c ≤ 9223372036854775807 := by
      rcases hsp with ⟨_, h, _⟩ | h
      · omega
      · exact h
    have hgB := (own_lt ho).1
    have hk1 : ((k : Int) == -1) = false := by simp
    have hCL := begin_asks bw who
    have HCL := Lib.hid hCL
    clear hCL hsp
    go_enter Try.func45, Try.ntmps45
    go_wp2_with fail
    refine (indexFunc_begin hU hbw).mono ?_
    rintro e w1 ⟨rfl, hBc⟩
    rw [HI.out]
    replace ho := own_below ho hBc
    replace hbw := below_cell hBc hbw
    have hB := hBc.mono hBw
    clear hBc hU
    go_wp2
    go_loopw [5, 6] (fun iv jv wr => ∃ (i j : Nat) (m : ViL), iv = .int .i64 i ∧ jv = .int .i64 j ∧ j ≤ l.length ∧ i < j ∧ Hid (Cutting who l m i j) ∧ wr.ownsRow B 38 3 (.slice (some ⟨g, 0, none⟩) l.length c) l.length (m.flatMap viEnc) ∧ Below B w wr ∧ wr.cell? ⟨bw, 0, none⟩ = some (.int .i64 who)) (fun _ jv _ => l.length - (intOf jv).toNat)
    case atStart => exact ⟨k, k + 1, l, rfl, by go_num, by omega, by omega, HS, ho, hB, hbw⟩
    case round =>
      clear ho hB hbw HS
      obtain ⟨i, j, m, rfl, rfl, hj, hij, HC, ho, hB, hbw⟩ := hrel
      by_cases hlt : j < l.length
      · have hm : m.length = l.length := HC.out.len
        have HM := Lib.hid hm
        have hR : viR wr (some ⟨g, 0, none⟩) m := viR.own hm (by omega) ho
        obtain ⟨b', off', e', hcl⟩ := hR.cells (by omega)
        simp only [Option.some.injEq, Addr.mk.injEq, and_true] at e'
        obtain ⟨rfl, rfl⟩ := e'
        obtain ⟨c0, c1, c2⟩ := hcl j (by omega)
        rw [Nat.zero_add] at c0 c1 c2
        have hel : (vi0 m j, vi1 m j, vi2 m j) = l[j] := by
          obtain ⟨hjm, he⟩ := HC.out.at hlt
          rw [vi_elem hjm, he]
        have hvi : vi0 m j = vi0 l j := by have := vi_elem hlt; rw [← hel] at this; simp at this; exact this.1.symm
        have HEL := Lib.hid hel
        have HVI : Hid (viIs who l j = decide (vi0 m j = who)) := Lib.hid (by rw [viIs, hvi])
        clear hm hR hcl hel hvi
        have y0 := box_cell wr #[.int .i64 (vi0 m j), .int .i64 (vi1 m j), .int .i64 (vi2 m j)] 38 0 (.int .i64 (vi0 m j)) rfl
        have y1 := box_cell wr #[.int .i64 (vi0 m j), .int .i64 (vi1 m j), .int .i64 (vi2 m j)] 38 1 (.int .i64 (vi1 m j)) rfl
        have y2 := box_cell wr #[.int .i64 (vi0 m j), .int .i64 (vi1 m j), .int .i64 (vi2 m j)] 38 2 (.int .i64 (vi2 m j)) rfl
        have hA := below_alloc wr (.cells #[.int .i64 (vi0 m j), .int .i64 (vi1 m j), .int .i64 (vi2 m j)] 38)
        have hbw1 := below_cell hA hbw
        have hsz : B ≤ wr.heap.size := by have := hB.size; omega
        go_wp2_with fail
        refine (HCL.out _ _ _ _ hbw1).mono ?_
        rintro e w2 ⟨rfl, hBc⟩
        have hA2 := ext_trans hA hBc
        replace ho := own_below ho hA2
        replace hbw := below_cell hA2 hbw
        replace hB := hB.trans (hA2.mono hsz)
        replace y0 := below_cell hBc y0
        replace y1 := below_cell hBc y1
        replace y2 := below_cell hBc y2
        clear hBc hA hA2 c0 c1 c2 hbw1
        rw [← HVI.out]
        cases gp : viIs who l j
        · obtain ⟨v0, f0⟩ := own_cell ho (j := i * 3) (by omega)
          obtain ⟨v1, f1⟩ := own_cell ho (j := i * 3 + 1) (by omega)
          obtain ⟨v2, f2⟩ := own_cell ho (j := i * 3 + 2) (by omega)
          have z0 := ho.frozenAt (i * 3)
          have z1 := ho.frozenAt (i * 3 + 1)
          have z2 := ho.frozenAt (i * 3 + 2)
          go_wp2
          go_roundw
          case rel =>
            refine ⟨i + 1, j + 1, m.set i (vi0 m j, vi1 m j, vi2 m j), by go_num, by go_num, by omega, by omega, Lib.hid (by rw [HEL.out]; exact HC.out.kept hlt gp), own_put (vi0 m j, vi1 m j, vi2 m j) (fun _ => rfl) ho HM.out (by omega), setCells_below (by omega) [.int .i64 (vi0 m j), .int .i64 (vi1 m j), .int .i64 (vi2 m j)] (i * 3) hB, ?_⟩
            exact ((setCells_grown g [.int .i64 (vi0 m j), .int .i64 (vi1 m j), .int .i64 (vi2 m j)] w2 (i * 3)).cell hbw (fun e => by simp at e; omega))
          case measure => simp [intOf]; omega
        · go_wp2
          go_roundw
          case rel => exact ⟨i, j + 1, m, rfl, by go_num, by omega, by omega, Lib.hid (HC.out.gone hlt gp), ho, hB, hbw⟩
          case measure => simp [intOf]; omega
      · obtain rfl : j = l.length := by omega
        obtain ⟨w3, ys, hclr, ho3, htk, hg3⟩ := run_clear_own (P := Try.prog) (i := i) (sz := 3) Try.underlying29 (z := .agg #[.int .i64 0, .int .i64 0, .int .i64 0]) (fun _ => by kernel_rfl) rfl (fun u hu => by simp [Value.cells] at hu; subst hu; rfl) ho hij (by omega)
        have HT := Lib.hid htk
        have HG := Lib.hid hg3
        have hclr2 := hclr 0 (c - i)
        clear htk hg3 hclr
        have HM := Lib.hid HC.out.done
        have HL := Lib.hid HC.out.len
        have hic : i ≤ c := by omega
        go_wp2
        go_ret
        obtain ⟨e1, e2⟩ := HM.out
        have h4 := own_prefix ho3 (m := i) (by omega)
        rw [HT.out, flatMap_take (enc := viEnc) (sz := 3) (fun _ => rfl) m i (by rw [HL.out]; omega), e1] at h4
        have hfin : OwnA B 38 3 viEnc w3 (.slice (some ⟨g, 0, none⟩) i c) (l.filter (viNot who)) := ⟨some ⟨g, 0, none⟩, c, by rw [← e2], by rw [← e2]; exact h4⟩
        refine ⟨_, rfl, hfin, ?_⟩
        exact hB.trans (grown_below HG.out (by have := hB.size; omega) (fun k e => by cases e; exact hgB))
end Go.Proofs.Ytflhmkpabhedjaa
