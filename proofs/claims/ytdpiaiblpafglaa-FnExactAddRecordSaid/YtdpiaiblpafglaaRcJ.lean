/- Copies of records. -/
import Derived.Test.YtdpiaiblpafglaaRcI
namespace Go.Proofs.Ytdpiaiblpafglaa
set_option linter.unusedSimpArgs false
set_option linter.unusedVariables false
open Go.RowKit

theorem OwnG.typ {α : Type} {R : World → α → List Value → Prop} {B : Nat} {e : TypeId} {sz : Nat} {w : World} {v : Value} {l : List α} (h : OwnG R B e sz w v l) : ∀ k, v.ownBlock = some k → ∃ cs fr, w.heap[k]? = some (.cells cs e fr) := by
  obtain ⟨A, c, xs, rfl, ho, _⟩ := h
  intro k hk
  rcases ho.2 with ⟨h1, _⟩ | ⟨g2, cap, cur, hv, _, hx2, _⟩
  · rw [h1] at hk; cases hk
  · rw [hv] at hk
    simp only [Value.ownBlock, Option.some.injEq] at hk
    subst hk
    exact ⟨_, _, hx2⟩
/-- append of what reads as a list to a slice without capacity. -/
theorem op_append_emptyG {α : Type} {R : World → α → List Value → Prop} {P : Program} {w : World} {o : Oper} {a : Act} {K : Act → World → Prop} {Q : Exit → Act → World → Prop} (s x : Operand) (t e : TypeId) (z : Value) (sz bytes : Nat)
    (ho : o.op = .call { callee := .builtin .append, args := #[s, x], argTypes := #[t, t] }) (ht : P.underlying t = some (.slice e)) (hinfo : (P.info? e).map (fun i => (i.zero, i.size, i.bytes)) = some (some z, sz, bytes))
    (hzs : z.cells.size = sz) (hsz : 0 < sz) {B : Nat} (hs : FrB B e 0 #[] w (a.eval s)) {A : Option Addr} {l : List α} {c : Nat} (hx : a.eval x = .slice A l.length c) (hr : RdL R sz w A l) (hR : ∀ w', Below w.heap.size w w' → ∀ a cs, R w a cs → R w' a cs)
    (hbase : B ≤ w.heap.size) (hbytes : l.length * bytes ≤ 140737488355328) (h63 : l.length ≤ 9223372036854775807)
    (h : ∀ v' w', OwnG R B e sz w' v' l → Below w.heap.size w w' → K (a.put o.dst v') w') : o.wp P a w K Q := by
  obtain ⟨i, hi, hz, hsize, hby⟩ := info_parts hinfo
  obtain ⟨g, hs, hB, hg⟩ := hs
  rcases Nat.eq_zero_or_pos l.length with h0 | hpos
  · obtain rfl := List.eq_nil_of_length_eq_zero h0
    have h1 : (Builtin.append_ #[t, t] o.type #[.slice (some ⟨g, 0, Option.none⟩) 0 0, .slice A ([] : List α).length c]).run P w = .ok (.slice (some ⟨g, 0, Option.none⟩) 0 0) w := by
      cases A <;> simp [Builtin.append_, run_underlying ht, sizeOf, typeInfo, hi, Builtin.lenOf, Builtin.firstCells, storeCells, loadCells, loadCellsFrom]
    unfold Oper.wp execOp
    simp only [ho, resolve, invoke, builtin, Sem.run_bind, Sem.run_pure, Result.andThen_ok, List.map_toArray, List.map_cons, List.map_nil, hs, hx, h1]
    exact h _ _ ⟨_, 0, [], rfl, ⟨by simp, .inr ⟨g, 0, #[], rfl, hB, hg, Nat.le_refl _, by simp [maxLen], by simp, by simp⟩⟩, rfl⟩ (Below.refl _ _)
  · obtain ⟨b, off, rfl, _⟩ := hr.2 hpos
    obtain ⟨ys, g1, g2⟩ := hr.chunks
    obtain ⟨v', w', h1, h2, h3⟩ := run_append_arg_grows (P := P) w t o.type e i z sz bytes ht hi hz hsize hby hzs hsz ⟨g, 0, Option.none⟩ 0 0 [] (by simp) (fun j u hj => by simp at hj) ⟨b, off, none⟩ l.length c ys g1.length g2 (by omega) (by simp only [maxLen]; omega) (by rw [Nat.zero_add]; exact hbytes)
    unfold Oper.wp execOp
    simp only [ho, resolve, invoke, builtin, Sem.run_bind, Sem.run_pure, Result.andThen_ok, List.map_toArray, List.map_cons, List.map_nil, hs, hx, h1]
    have hb : Below w.heap.size w w' := ⟨h3.os, h3.tape, h3.output, h3.size, fun k hk => h3.block k hk (fun e => by cases e)⟩
    exact h v' w' (OwnG.of (own_lower (by simpa using h2) hbase) (g1.mono (hR w' hb))) hb
set_option maxHeartbeats 1000000 in
theorem cloneFields_any {A : Option Addr} {l : FdL} {c : Nat} {w : World} (hU : fdR w A l) (hn : l.length ≤ 2097152) :
    Calls Try.prog 59 #[.slice A l.length c] w fun e w' => ∃ A' c', e = .returned (.slice A' l.length c') ∧ w'.ownsRow w.heap.size 85 3 (.slice A' l.length c') l.length (l.flatMap fdEnc) ∧ Below w.heap.size w w' := by
  go_enter Try.func59, Try.ntmps59
  go_wp2_with (at_builtin; go_must (refine wpList_pushes (enc := fdEnc) (l := []) (l2 := l) (B := w.heap.size) rfl (.const (.slice Option.none 0 0)) (.tmp 3) 23 85 _ 3 32 rfl Try.underlying23 Try.infoField rfl (by decide) (fun _ => rfl) fdEnc_one OwnA.nil rfl hU (by simp; omega) (by simp; omega) (Nat.le_refl _) ?_); intro v1 w1 hO1 hb1 _)
  obtain ⟨A1, c1, rfl, ho⟩ := hO1
  go_wp2
  go_ret
  exact ⟨A1, c1, rfl, ho, hb1⟩
set_option maxRecDepth 100000 in
set_option maxHeartbeats 4000000 in
theorem cloneRecords_any {A : Option Addr} {l : RcL} {c : Nat} {w : World} (hU : rcR w A l) (hn : l.length ≤ 2097152) (hf : FewF 1048576 l) :
    Calls Try.prog 49 #[.slice A l.length c] w fun e w' => ∃ A' c', e = .returned (.slice A' l.length c') ∧ OwnG (RcO w.heap.size) w.heap.size 27 7 w' (.slice A' l.length c') l ∧ Below w.heap.size w w' := by
  have HF := Lib.hid hf
  clear hf
  go_enter Try.func49, Try.ntmps49
  go_wp2
  go_loopw [3, 8] (fun ov iv wr => ∃ k : Nat, k ≤ l.length ∧ iv = .int .i64 k ∧ OwnG (RcO w.heap.size) w.heap.size 27 7 wr ov (l.take k) ∧ Below w.heap.size w wr) (fun _ iv _ => l.length - (intOf iv).toNat)
  case atStart => exact ⟨0, Nat.zero_le _, rfl, OwnG.nil, Below.refl _ _⟩
  case round =>
    obtain ⟨k, hk, rfl, hO, hB⟩ := hrel
    by_cases hlt : k < l.length
    · obtain ⟨bb, off, rfl, hc⟩ := hU.cells (by omega)
      obtain ⟨A', c', hfd, p0, p1, p2, p3, p4, p5, p6⟩ := hc k hlt
      replace p0 := below_cell hB p0
      replace p1 := below_cell hB p1
      replace p2 := below_cell hB p2
      replace p3 := below_cell hB p3
      replace p4 := below_cell hB p4
      replace p5 := below_cell hB p5
      replace p6 := below_cell hB p6
      replace hfd := hfd.below hB
      have hfl := HF.out k hlt
      have hb0 := below_alloc wr (.cells #[.int .i64 (rc0 l k), .int .i64 (rc1 l k), .int .i64 (rc2 l k), .int .i64 (rc3 l k), .slice A' (rc4 l k).length c', .bool (rc5 l k), .int .i64 (rc6 l k)] 27)
      obtain ⟨X, hX⟩ : ∃ X, X = wr.alloc (.cells #[.int .i64 (rc0 l k), .int .i64 (rc1 l k), .int .i64 (rc2 l k), .int .i64 (rc3 l k), .slice A' (rc4 l k).length c', .bool (rc5 l k), .int .i64 (rc6 l k)] 27) := ⟨_, rfl⟩
      obtain ⟨g, hg⟩ : ∃ g, g = wr.heap.size := ⟨_, rfl⟩
      have hXg : X.heap[g]? = some (.cells #[.int .i64 (rc0 l k), .int .i64 (rc1 l k), .int .i64 (rc2 l k), .int .i64 (rc3 l k), .slice A' (rc4 l k).length c', .bool (rc5 l k), .int .i64 (rc6 l k)] 27 (0, 0)) := by rw [hX, hg]; exact heap_alloc_new _ _
      rw [← hX] at hb0
      have hwg : w.heap.size ≤ g := by have := hB.size; omega
      have HLT : Hid (∀ k, u3.ownBlock = some k → k < g) := Lib.hid (fun k hk => by have := (hO.ge k hk).2; omega)
      replace hO := hO.below hb0 (RcO.below hb0)
      replace hB := ext_trans hB hb0
      replace hfd := hfd.below hb0
      have HX := Lib.hid hX
      have HG := Lib.hid hg
      have HXG := Lib.hid hXg
      clear hc hX hg hXg hb0
      go_wp2_with fail
      rw [← HX.out, ← HG.out]
      refine (cloneFields_any hfd (by omega)).mono ?_
      rintro e w1 ⟨A1, c1, rfl, ho1, hb1⟩
      have hwX := hB.size
      replace HXG := Lib.hid ((hb1.block _ (Array.getElem?_eq_some_iff.1 HXG.out).1).trans HXG.out)
      have x0 : w1.cell? ⟨g, 0, none⟩ = some _ := (cell_of_row w1 g 0 _ _ _ HXG.out).trans rfl
      have x1 : w1.cell? ⟨g, 1, none⟩ = some _ := (cell_of_row w1 g 1 _ _ _ HXG.out).trans rfl
      have x2 : w1.cell? ⟨g, 2, none⟩ = some _ := (cell_of_row w1 g 2 _ _ _ HXG.out).trans rfl
      have x3 : w1.cell? ⟨g, 3, none⟩ = some _ := (cell_of_row w1 g 3 _ _ _ HXG.out).trans rfl
      have x4 : w1.cell? ⟨g, 4, none⟩ = some _ := (cell_of_row w1 g 4 _ _ _ HXG.out).trans rfl
      have x5 : w1.cell? ⟨g, 5, none⟩ = some _ := (cell_of_row w1 g 5 _ _ _ HXG.out).trans rfl
      have x6 : w1.cell? ⟨g, 6, none⟩ = some _ := (cell_of_row w1 g 6 _ _ _ HXG.out).trans rfl
      have z4 : w1.frozen? ⟨g, 4, none⟩ = false := frozen_of_row w1 g 4 _ _ HXG.out
      have hsg := setCells_grown g [.slice A1 (rc4 l k).length c1] w1 4
      have hrow : ∀ j, some g = some j → ∃ cs fr, w1.heap[j]? = some (.cells cs 27 fr) := fun j e => by cases e; exact ⟨_, _, HXG.out⟩
      replace hO := (hO.below hb1 (RcO.below hb1)).kept hsg (fun k hk e => by cases e; have := HLT.out _ hk; omega) (RcO.row hsg hrow)
      have hq := RcO.row hsg hrow (rcAt l k) _ ⟨.slice A1 (rc4 l k).length c1, rfl, _, _, rfl, own_lower ho1 hwX⟩
      replace hB := (ext_trans hB hb1).grown hsg (Nat.le_trans hwX hb1.size) (fun k e => by cases e; exact hwg)
      have hba := below_alloc (setCells w1 g 4 [.slice A1 (rc4 l k).length c1]) (.cells #[.int .i64 (rc0 l k), .int .i64 (rc1 l k), .int .i64 (rc2 l k), .int .i64 (rc3 l k), .slice A1 (rc4 l k).length c1, .bool (rc5 l k), .int .i64 (rc6 l k)] 27)
      replace hO := hO.below hba (RcO.below hba)
      replace hq := RcO.below hba _ _ hq
      replace hB := ext_trans hB hba
      have hnew := heap_alloc_at (w := setCells w1 g 4 [.slice A1 (rc4 l k).length c1]) (n := w1.heap.size) (setCells_size _ _ _ _).symm (o := .cells #[.int .i64 (rc0 l k), .int .i64 (rc1 l k), .int .i64 (rc2 l k), .int .i64 (rc3 l k), .slice A1 (rc4 l k).length c1, .bool (rc5 l k), .int .i64 (rc6 l k)] 27)
      have hwb : w.heap.size ≤ ((setCells w1 g 4 [.slice A1 (rc4 l k).length c1]).alloc (.cells #[.int .i64 (rc0 l k), .int .i64 (rc1 l k), .int .i64 (rc2 l k), .int .i64 (rc3 l k), .slice A1 (rc4 l k).length c1, .bool (rc5 l k), .int .i64 (rc6 l k)] 27)).heap.size := hB.size
      have HO := Lib.hid hO
      have HQ := Lib.hid hq
      have HB := Lib.hid hB
      have HN := Lib.hid hnew
      have HWB := Lib.hid hwb
      clear hO hq hB hnew hba hsg hrow ho1 hb1 hwb
      go_wp2_with (at_builtin; go_must (refine wpList_appendG (R := RcO w.heap.size) (l := l.take k) (l2 := [rcAt l k]) rfl (.tmp 18) (.tmp 20) 33 27 _ 7 72 rfl Try.underlying33 Try.infoRecord rfl (by decide) (fun a cs h => RcO.one h) HO.out rfl (rd_blockG HN.out rfl HQ.out) (fun w' hg a cs h => RcO.row hg (OwnG.typ HO.out) a cs h) (by simp; omega) (by simp; omega) HWB.out ?_); intro v3 w3 hO3 hB3 hg3 _)
      replace hB3 := HB.out.trans hB3
      clear HO HQ HB HN HWB hg3 x0 x1 x2 x3 x4 x5 x6 z4
      go_wp2
      go_roundw
      case rel =>
        refine ⟨k + 1, by omega, by go_num, ?_, hB3⟩
        rw [List.take_succ_eq_append_getElem hlt, ← rcAt_eq hlt]; exact hO3
      case measure => simp [intOf]; omega
    · obtain rfl : k = l.length := by omega
      rw [List.take_length] at hO
      obtain ⟨A', c', xs, rfl, ho, hch⟩ := hO
      go_wp2
      go_ret
      exact ⟨A', c', rfl, ⟨A', c', xs, rfl, ho, hch⟩, hB⟩
set_option maxRecDepth 100000 in
set_option maxHeartbeats 4000000 in
theorem l37Own_any {A : Option Addr} {l : RcL} {c : Nat} {w : World} (hU : rcR w A l) (hn : l.length ≤ 2097152) (hf : FewF 1048576 l) :
    Calls Try.prog 50 #[.slice A l.length c] w fun e w' => ∃ A' c', e = .returned (.slice A' l.length c') ∧ OwnG (RcO w.heap.size) w.heap.size 27 7 w' (.slice A' l.length c') l ∧ Below w.heap.size w w' := by
  have HF := Lib.hid hf
  clear hf
  go_enter Try.func50, Try.ntmps50
  go_wp2
  go_loopw [3, 4] (fun ov iv wr => ∃ k : Nat, k ≤ l.length ∧ iv = .int .i64 k ∧ OwnG (RcO w.heap.size) w.heap.size 27 7 wr ov (l.take k) ∧ Below w.heap.size w wr) (fun _ iv _ => l.length - (intOf iv).toNat)
  case atStart => exact ⟨0, Nat.zero_le _, rfl, OwnG.empty (Nat.le_refl _), below_alloc _ _⟩
  case round =>
    obtain ⟨k, hk, rfl, hO, hB⟩ := hrel
    by_cases hlt : k < l.length
    · obtain ⟨bb, off, rfl, hc⟩ := hU.cells (by omega)
      obtain ⟨A', c', hfd, p0, p1, p2, p3, p4, p5, p6⟩ := hc k hlt
      replace p0 := below_cell hB p0
      replace p1 := below_cell hB p1
      replace p2 := below_cell hB p2
      replace p3 := below_cell hB p3
      replace p4 := below_cell hB p4
      replace p5 := below_cell hB p5
      replace p6 := below_cell hB p6
      replace hfd := hfd.below hB
      have hfl := HF.out k hlt
      have hb0 := below_alloc wr (.cells #[.int .i64 (rc0 l k), .int .i64 (rc1 l k), .int .i64 (rc2 l k), .int .i64 (rc3 l k), .slice A' (rc4 l k).length c', .bool (rc5 l k), .int .i64 (rc6 l k)] 27)
      obtain ⟨X, hX⟩ : ∃ X, X = wr.alloc (.cells #[.int .i64 (rc0 l k), .int .i64 (rc1 l k), .int .i64 (rc2 l k), .int .i64 (rc3 l k), .slice A' (rc4 l k).length c', .bool (rc5 l k), .int .i64 (rc6 l k)] 27) := ⟨_, rfl⟩
      obtain ⟨g, hg⟩ : ∃ g, g = wr.heap.size := ⟨_, rfl⟩
      have hXg : X.heap[g]? = some (.cells #[.int .i64 (rc0 l k), .int .i64 (rc1 l k), .int .i64 (rc2 l k), .int .i64 (rc3 l k), .slice A' (rc4 l k).length c', .bool (rc5 l k), .int .i64 (rc6 l k)] 27 (0, 0)) := by rw [hX, hg]; exact heap_alloc_new _ _
      have hXs : X.heap.size = g + 1 := by rw [hX, hg]; simp
      rw [← hX] at hb0
      have hwg : w.heap.size ≤ g := by have := hB.size; omega
      have HLT : Hid (∀ k, u3.ownBlock = some k → k < g) := Lib.hid (fun k hk => by have := (hO.ge k hk).2; omega)
      replace hO := hO.below hb0 (RcO.below hb0)
      replace hB := ext_trans hB hb0
      replace hfd := hfd.below hb0
      have HX := Lib.hid hX
      have HG := Lib.hid hg
      have HXG := Lib.hid hXg
      clear hc hX hg hXg hb0
      have hbe := below_alloc X (.cells #[] 85)
      have HE : Hid (OwnA X.heap.size 85 3 fdEnc (X.alloc (.cells #[] 85)) (.slice (some ⟨g + 1, 0, none⟩) 0 0) ([] : FdL)) := Lib.hid (by rw [← hXs]; exact OwnA.empty (Nat.le_refl _))
      have HFD := Lib.hid (hfd.below hbe)
      have y4 : X.cell? ⟨g, 4, none⟩ = some (.slice A' (rc4 l k).length c') := (cell_of_row X g 4 _ _ _ HXG.out).trans rfl
      have e4 := below_cell hbe y4
      clear hfd
      clear hXs
      go_wp2_with (first | (at_builtin; rw [← HX.out, ← HG.out]; refine wpList_pushes (enc := fdEnc) (l := []) (l2 := rc4 l k) (B := X.heap.size) rfl (.tmp 17) (.tmp 20) 23 85 _ 3 32 rfl Try.underlying23 Try.infoField rfl (by decide) (fun _ => rfl) fdEnc_one HE.out rfl HFD.out (by simp; omega) (by simp; omega) (by simp) ?_; intro v1 w1 hO1 hb1 _; obtain ⟨A1, c1, rfl, ho1⟩ := hO1; replace hb1 : Below X.heap.size X w1 := (hbe.trans hb1); replace HXG := Lib.hid ((hb1.block _ (Array.getElem?_eq_some_iff.1 HXG.out).1).trans HXG.out); have x0 : w1.cell? ⟨g, 0, none⟩ = some _ := (cell_of_row w1 g 0 _ _ _ HXG.out).trans rfl; have x1 : w1.cell? ⟨g, 1, none⟩ = some _ := (cell_of_row w1 g 1 _ _ _ HXG.out).trans rfl; have x2 : w1.cell? ⟨g, 2, none⟩ = some _ := (cell_of_row w1 g 2 _ _ _ HXG.out).trans rfl; have x3 : w1.cell? ⟨g, 3, none⟩ = some _ := (cell_of_row w1 g 3 _ _ _ HXG.out).trans rfl; have x4 : w1.cell? ⟨g, 4, none⟩ = some _ := (cell_of_row w1 g 4 _ _ _ HXG.out).trans rfl; have x5 : w1.cell? ⟨g, 5, none⟩ = some _ := (cell_of_row w1 g 5 _ _ _ HXG.out).trans rfl; have x6 : w1.cell? ⟨g, 6, none⟩ = some _ := (cell_of_row w1 g 6 _ _ _ HXG.out).trans rfl; have z4 : w1.frozen? ⟨g, 4, none⟩ = false := frozen_of_row w1 g 4 _ _ HXG.out; clear hbe HE HFD y4 e4; have hwX := hB.size; have hsg := setCells_grown g [.slice A1 (rc4 l k).length c1] w1 4; have hrow : ∀ j, some g = some j → ∃ cs fr, w1.heap[j]? = some (.cells cs 27 fr) := (fun j e => by cases e; exact ⟨_, _, HXG.out⟩); replace hO := (hO.below hb1 (RcO.below hb1)).kept hsg (fun k hk e => by cases e; have := HLT.out _ hk; omega) (RcO.row hsg hrow); have hq := RcO.row hsg hrow (rcAt l k) _ ⟨.slice A1 (rc4 l k).length c1, rfl, _, _, rfl, own_lower ho1 hwX⟩; replace hB := (ext_trans hB hb1).grown hsg (Nat.le_trans hwX hb1.size) (fun k e => by cases e; exact hwg); have hba := below_alloc (setCells w1 g 4 [.slice A1 (rc4 l k).length c1]) (.cells #[.int .i64 (rc0 l k), .int .i64 (rc1 l k), .int .i64 (rc2 l k), .int .i64 (rc3 l k), .slice A1 (rc4 l k).length c1, .bool (rc5 l k), .int .i64 (rc6 l k)] 27); replace hO := hO.below hba (RcO.below hba); replace hq := RcO.below hba _ _ hq; replace hB := ext_trans hB hba; have hnew := heap_alloc_at (w := setCells w1 g 4 [.slice A1 (rc4 l k).length c1]) (n := w1.heap.size) (setCells_size _ _ _ _).symm (o := .cells #[.int .i64 (rc0 l k), .int .i64 (rc1 l k), .int .i64 (rc2 l k), .int .i64 (rc3 l k), .slice A1 (rc4 l k).length c1, .bool (rc5 l k), .int .i64 (rc6 l k)] 27); have hwb : w.heap.size ≤ ((setCells w1 g 4 [.slice A1 (rc4 l k).length c1]).alloc (.cells #[.int .i64 (rc0 l k), .int .i64 (rc1 l k), .int .i64 (rc2 l k), .int .i64 (rc3 l k), .slice A1 (rc4 l k).length c1, .bool (rc5 l k), .int .i64 (rc6 l k)] 27)).heap.size := hB.size; have HO := Lib.hid hO; have HQ := Lib.hid hq; have HB := Lib.hid hB; have HN := Lib.hid hnew; have HWB := Lib.hid hwb; (clear hO hq hB hnew hba hsg hrow ho1 hb1 hwb)) | (at_builtin; (refine wpList_appendG (R := RcO w.heap.size) (l := l.take k) (l2 := [rcAt l k]) rfl (.tmp 24) (.tmp 26) 33 27 _ 7 72 rfl Try.underlying33 Try.infoRecord rfl (by decide) (fun a cs h => RcO.one h) HO.out rfl (rd_blockG HN.out rfl HQ.out) (fun w' hg a cs h => RcO.row hg (OwnG.typ HO.out) a cs h) (by simp; omega) (by simp; omega) HWB.out ?_); intro v3 w3 hO3 hB3 hg3 _))
      replace hB3 := HB.out.trans hB3
      clear HO HQ HB HN HWB hg3 x0 x1 x2 x3 x4 x5 x6 z4
      go_wp2
      go_roundw
      case rel =>
        refine ⟨k + 1, by omega, by go_num, ?_, hB3⟩
        rw [List.take_succ_eq_append_getElem hlt, ← rcAt_eq hlt]; exact hO3
      case measure => simp [intOf]; omega
    · obtain rfl : k = l.length := by omega
      rw [List.take_length] at hO
      obtain ⟨A', c', xs, rfl, ho, hch⟩ := hO
      go_wp2
      go_ret
      exact ⟨A', c', rfl, ⟨A', c', xs, rfl, ho, hch⟩, hB⟩
end Go.Proofs.Ytdpiaiblpafglaa
