/- Decisions by safe policies, by the program: no faults. -/
import Derived.Test.YtodjokdaofefdaaGreatQ20
import Derived.Test.YtodjokdaofefdaaGreatQ2
import Derived.Test.YtodjokdaofefdaaGreatQ1
import Derived.Test.YtodjokdaofefdaaGreatQ3
import Derived.Tactics
namespace Go.Proofs.YtodjokdaofefdaaGreat
set_option linter.unusedSimpArgs false
set_option linter.unusedVariables false
open Go.RowKit

/-- append of one element, and where the new row stands. -/
theorem wpList_pushAt {α : Type} {enc : α → List Value} {P : Program} {w : World} {ops : Array Oper} {rest : List Oper} {o : Oper} {a : Act} {Q0 : Exit → Act → World → Prop} (q : α) (hgd : o.guard = Option.none) (s x : Operand) (t e : TypeId) (z : Value) (sz bytes : Nat)
    (ho : o.op = .call { callee := .builtin .append, args := #[s, x], argTypes := #[t, t] }) (ht : P.underlying t = some (.slice e)) (hinfo : (P.info? e).map (fun i => (i.zero, i.size, i.bytes)) = some (some z, sz, bytes))
    (hzs : z.cells.size = sz) (hsz : 0 < sz) (henc : ∀ a, (enc a).length = sz) (hone : ∀ a, ∀ u ∈ enc a, u.oneCell' = true)
    {B g c : Nat} {l : List α} {cs : Array Value} {T : TypeId} {v : Value} (hv0 : a.eval s = v) (hd : OwnA B e sz enc w v l) (hx : a.eval x = .slice (some ⟨g, 0, Option.none⟩) 1 c) (hblk : w.heap[g]? = some (.cells cs T (0, 0))) (hcs : [q].flatMap enc = cs.toList)
    (hbytes : (l.length + 1) * bytes ≤ 140737488355328) (h63 : l.length + 1 ≤ 9223372036854775807) (hbase : B ≤ w.heap.size)
    (h : ∀ v' w', OwnA B e sz enc w' v' (l ++ [q]) → Below B w w' → w.grownBy w' v.ownBlock → (v'.ownBlock = v.ownBlock ∨ v'.ownBlock = some w.heap.size) → wpList P ops Q0 rest (a.put o.dst v') w') : wpList P ops Q0 (o :: rest) a w := by
  obtain ⟨A, c', hv, hown⟩ := hd
  refine wpList_append_rd (enc := enc) (l := [q]) hgd s x B t e z sz bytes ho ht hinfo hzs hsz henc hone (hv0.trans hv) hown hx (rd_block henc hblk hcs) (by simpa using hbytes) (by simpa using h63) hbase ?_
  intro v' w' ho' hg ha
  have ho2 : w'.ownsRow B e sz v' (l ++ [q]).length ((l ++ [q]).flatMap enc) := by simpa using ho'
  refine h v' w' (OwnA.of ho2) (grown_below hg hbase (fun k hk => (hown.lt k hk).1)) (by rw [hv]; exact hg) (by rw [hv]; exact ha)
/-- Rows of numbers of one's own that lie apart. -/
def Two (B k : Nat) (w : World) (a f : Value) : Prop := (∃ la, OwnA B 3 1 ilEnc w a la ∧ la.length ≤ k) ∧ (∃ lf, OwnA B 3 1 ilEnc w f lf ∧ lf.length ≤ k) ∧ ∀ j, a.ownBlock = some j → f.ownBlock ≠ some j
theorem Two.below {B k : Nat} {w w' : World} {a f : Value} (h : Two B k w a f) (hb : Below w.heap.size w w') : Two B k w' a f := let ⟨⟨la, h1, h2⟩, ⟨lf, h3, h4⟩, h5⟩ := h; ⟨⟨la, h1.below hb, h2⟩, ⟨lf, h3.below hb, h4⟩, h5⟩
theorem Two.more {B k : Nat} {w : World} {a f : Value} (h : Two B k w a f) : Two B (k + 1) w a f := let ⟨⟨la, h1, h2⟩, ⟨lf, h3, h4⟩, h5⟩ := h; ⟨⟨la, h1, by omega⟩, ⟨lf, h3, by omega⟩, h5⟩
theorem Two.swap {B k : Nat} {w : World} {a f : Value} (h : Two B k w a f) : Two B k w f a := ⟨h.2.1, h.1, fun j e e2 => h.2.2 j e2 e⟩
theorem Two.push {B k : Nat} {w w' : World} {a f v' : Value} {la : List Int} {x : Int} (h : Two B k w a f) (hl : la.length ≤ k) (ho : OwnA B 3 1 ilEnc w' v' (la ++ [x])) (hg : w.grownBy w' a.ownBlock) (ha : v'.ownBlock = a.ownBlock ∨ v'.ownBlock = some w.heap.size) : Two B (k + 1) w' v' f := by
  obtain ⟨_, ⟨lf, h3, h4⟩, h5⟩ := h
  refine ⟨⟨_, ho, by simp; omega⟩, ⟨lf, h3.apart hg (fun j e e2 => h5 j e2 e), by omega⟩, fun j e => ?_⟩
  rcases ha with h | h
  · exact h5 j (h ▸ e)
  · intro e2
    have := (h3.ge j e2).2
    rw [h] at e
    cases e
    omega
theorem cells3 {w : World} {g : Nat} {T : TypeId} {a b c : Value} (h : w.heap[g]? = some (.cells #[a, b, c] T (0, 0))) : w.cell? ⟨g, 0, none⟩ = some a ∧ w.cell? ⟨g, 1, none⟩ = some b ∧ w.cell? ⟨g, 2, none⟩ = some c :=
  ⟨(cell_of_row w g 0 _ _ _ h).trans rfl, (cell_of_row w g 1 _ _ _ h).trans rfl, (cell_of_row w g 2 _ _ _ h).trans rfl⟩
theorem froz3 {w : World} {g : Nat} {T : TypeId} {cs : Array Value} (h : w.heap[g]? = some (.cells cs T (0, 0))) : w.frozen? ⟨g, 0, none⟩ = false ∧ w.frozen? ⟨g, 1, none⟩ = false ∧ w.frozen? ⟨g, 2, none⟩ = false :=
  ⟨frozen_of_row w g 0 _ _ h, frozen_of_row w g 1 _ _ h, frozen_of_row w g 2 _ _ h⟩
theorem box_put3 {w : World} {g : Nat} {T : TypeId} {cs : Array Value} (v0 v1 v2 : Value) (h : w.heap[g]? = some (.cells cs T (0, 0))) (hn : cs.size = 3) :
    (((w.setCell ⟨g, 0, none⟩ v0).setCell ⟨g, 1, none⟩ v1).setCell ⟨g, 2, none⟩ v2).heap[g]? = some (.cells #[v0, v1, v2] T (0, 0)) := by
  rcases cs with ⟨l⟩
  match l, hn with
  | [a, b, c], _ => exact setCells_atG [v0, v1, v2] 0 h (by simp)
theorem box_put_below3 {B : Nat} {w w' : World} {g : Nat} (v0 v1 v2 : Value) (hg : B ≤ g) (h : Below B w w') : Below B w (((w'.setCell ⟨g, 0, none⟩ v0).setCell ⟨g, 1, none⟩ v1).setCell ⟨g, 2, none⟩ v2) := setCells_below hg [v0, v1, v2] 0 h
set_option maxRecDepth 100000 in
set_option maxHeartbeats 8000000 in
theorem implDecide {d : Nat} {s : Sc} {W : WL} {r : Rq} {A B C : Option Addr} {c c2 cl : Nat} {l : PoL} {w : World} (hW : wlR w A W) (hw : WfW W) (hR : fdR w B r.fs) (hf : WfFd r.fs) (hU : poW d w C l) (hs : safOk d s W.length l = true) (hc : cfB s W r = true) :
    Calls Tryz.prog 9 #[.slice A W.length c, rqV r B c2, .slice C l.length cl] w fun e w' => ∃ (b : Bool) (A1 : Option Addr) (n1 q1 : Nat), e = .returned (.agg #[.bool b, .slice A1 n1 q1, .slice none 0 0]) ∧ Below w.heap.size w w' := by
  unfold rqV
  have hlen := hW.len
  have hlen2 := poW.len hU
  have hrq : rqOk W r = true := (cfB_ok hc).1
  have hpos : posOk l = true := saf_pos hs
  have hl6 : l.length ≤ 6 := (cD_true.1 hpos).2
  have HAP : Hid (∀ (k : Nat) (v : World) (A' : Option Addr) (c' : Nat), k < l.length → wlR v A W → fdR v B r.fs → exW d v A' (poAt l k).wh.ps → poZ (poAt l k) → Calls Tryz.prog 29 #[.slice A W.length c, .agg #[.int .i64 r.who, .int .i64 r.act, .int .i64 r.what, .slice B r.fs.length c2], .agg #[.string (poAt l k).nm, .bool (poAt l k).al, .int .i64 (poAt l k).who, .int .i64 (poAt l k).what, .int .i64 (poAt l k).acts, .int .i64 (poAt l k).wh.k, .int .i64 (poAt l k).wh.n, .string (poAt l k).wh.s, .slice A' (poAt l k).wh.ps.length c']] v fun e w' => ∃ z : Int, e = .returned (.int .i64 z) ∧ (z = 0 ∨ z = 1) ∧ Below v.heap.size v w') := Lib.hid (fun k v A' c' hk g1 g2 g3 g4 => by
    obtain ⟨k1, k2, m, k3, k4⟩ := ck_apply (exS_in g3) hc (saf_at hs hk)
    exact implApplies g1 hw g2 hf g3 g4 k1 k2 k3 k4)
  have HRV : Hid (∀ v : World, wlR v A W → fdR v B r.fs → Calls Tryz.prog 27 #[.slice A W.length c, .agg #[.int .i64 r.who, .int .i64 r.act, .int .i64 r.what, .slice B r.fs.length c2]] v fun e w' => e = .returned (.bool true) ∧ Below v.heap.size v w') := Lib.hid (fun v g1 g2 => hrq ▸ implRequestValid g1 hw g2 hf)
  have HPV : Hid (∀ v : World, poW d v C l → Calls Tryz.prog 10 #[.slice C l.length cl] v fun e w' => e = .returned (.bool true) ∧ Below v.heap.size v w') := Lib.hid (fun v g1 => hpos ▸ implPoliciesValid rfl g1)
  obtain ⟨X, hX⟩ : ∃ X, X = (w.alloc (.cells #[.int .i64 r.who, .int .i64 r.act, .int .i64 r.what, .slice B r.fs.length c2] 33)).alloc (.cells #[.bool false, .slice none 0 0, .slice none 0 0] 42) := ⟨_, rfl⟩
  obtain ⟨g, hg⟩ : ∃ g, g = w.heap.size := ⟨_, rfl⟩
  have hB : Below w.heap.size w X := by rw [hX]; (repeat (first | exact Below.refl _ _ | refine ext_alloc ?_ _ | refine Below.setCell ?_ (by simp) _))
  have hq1 : X.heap[g]? = some (.cells #[.int .i64 r.who, .int .i64 r.act, .int .i64 r.what, .slice B r.fs.length c2] 33 (0, 0)) := by rw [hX, hg]; exact block_in (heap_alloc_new _ _) (below_alloc _ _)
  have hq2 : X.heap[g + 1]? = some (.cells #[.bool false, .slice none 0 0, .slice none 0 0] 42 (0, 0)) := by rw [hX, hg]; exact heap_alloc_at (by simp)
  have HB := Lib.hid hB
  have HW := Lib.hid (hW.below hB)
  have HR := Lib.hid (hR.below hB)
  have HU := Lib.hid (poW.below hU hB)
  have HX := Lib.hid hX
  have HG := Lib.hid hg
  have HGB : Hid (w.heap.size ≤ g + 1 ∧ g + 1 + 1 ≤ X.heap.size) := Lib.hid ⟨by omega, by rw [hX, hg]; simp⟩
  have HQ1 := Lib.hid hq1
  have HQ2 := Lib.hid hq2
  obtain ⟨p0, p1, p2, p3⟩ := cells4 hq1
  clear hX hg hq1 hq2 hB hW hR hU hs hc hw hf hrq hpos
  go_enter Tryz.func9, Tryz.ntmps9
  go_wp2_with fail
  rw [← HX.out, ← HG.out]
  refine (HRV.out _ HW.out HR.out).mono ?_
  rintro e w1 ⟨rfl, hb⟩
  have HGB : Hid (w.heap.size ≤ g + 1 ∧ g + 1 + 1 ≤ w1.heap.size) := Lib.hid ⟨HGB.out.1, Nat.le_trans HGB.out.2 hb.size⟩
  have HB := Lib.hid (ext_trans HB.out hb)
  have HW := Lib.hid (HW.out.below hb)
  have HR := Lib.hid (HR.out.below hb)
  have HU := Lib.hid (poW.below HU.out hb)
  have HQ1 := Lib.hid (block_in HQ1.out hb)
  have HQ2 := Lib.hid (block_in HQ2.out hb)
  clear p0 p1 p2 p3
  obtain ⟨p0, p1, p2, p3⟩ := cells4 HQ1.out
  clear hb HX
  go_wp2_with fail
  refine (HPV.out _ HU.out).mono ?_
  rintro e w2 ⟨rfl, hb⟩
  have HGB : Hid (w.heap.size ≤ g + 1 ∧ g + 1 + 1 ≤ w2.heap.size) := Lib.hid ⟨HGB.out.1, Nat.le_trans HGB.out.2 hb.size⟩
  have HB := Lib.hid (ext_trans HB.out hb)
  have HW := Lib.hid (HW.out.below hb)
  have HR := Lib.hid (HR.out.below hb)
  have HU := Lib.hid (poW.below HU.out hb)
  have HQ1 := Lib.hid (block_in HQ1.out hb)
  have HQ2 := Lib.hid (block_in HQ2.out hb)
  clear p0 p1 p2 p3
  obtain ⟨p0, p1, p2, p3⟩ := cells4 HQ1.out
  clear hb
  go_wp2_with fail
  go_loopw [7, 8, 9, 25] (fun a f x i wr => ∃ k : Nat, k ≤ l.length ∧ i = .int .i64 k ∧ x = .slice none 0 0 ∧ Two w2.heap.size k wr a f ∧ Below w2.heap.size w2 wr) (fun _ _ _ i _ => l.length - (intOf i).toNat)
  case atStart => exact ⟨0, Nat.zero_le _, rfl, rfl, ⟨⟨[], OwnA.nil, by simp⟩, ⟨[], OwnA.nil, by simp⟩, fun j e => by simp [Value.ownBlock] at e⟩, Below.refl _ _⟩
  case round =>
    obtain ⟨k, hk, rfl, rfl, hT, hD⟩ := hrel
    clear p0 p1 p2 p3
    by_cases hlt : k < l.length
    · have hUr := poW.below HU.out hD
      obtain ⟨b, off, rfl, _, hc⟩ := poS.cells hUr (by omega)
      obtain ⟨A', c', hfd, hz, q0, q1, q2, q3, q4, q5, q6, q7, q8⟩ := hc k hlt
      obtain ⟨Y, hY⟩ : ∃ X, X = wr.alloc (.cells #[.string (poAt l k).nm, .bool (poAt l k).al, .int .i64 (poAt l k).who, .int .i64 (poAt l k).what, .int .i64 (poAt l k).acts, .int .i64 (poAt l k).wh.k, .int .i64 (poAt l k).wh.n, .string (poAt l k).wh.s, .slice A' (poAt l k).wh.ps.length c'] 54) := ⟨_, rfl⟩
      obtain ⟨gp, hgp⟩ : ∃ g, g = wr.heap.size := ⟨_, rfl⟩
      have hbl : Below wr.heap.size wr Y := by rw [hY]; exact below_alloc _ _
      have hqp : Y.heap[gp]? = some (.cells #[.string (poAt l k).nm, .bool (poAt l k).al, .int .i64 (poAt l k).who, .int .i64 (poAt l k).what, .int .i64 (poAt l k).acts, .int .i64 (poAt l k).wh.k, .int .i64 (poAt l k).wh.n, .string (poAt l k).wh.s, .slice A' (poAt l k).wh.ps.length c'] 54 (0, 0)) := by rw [hY, hgp]; exact heap_alloc_new _ _
      have hD2 := ext_trans hD hbl
      have hfd2 : exW d wr A' (poAt l k).wh.ps := hfd
      have HC := Lib.hid (HAP.out k Y A' c' hlt (HW.out.below hD2) (HR.out.below hD2) (hfd2.below hbl) hz)
      have HD2 := Lib.hid hD2
      have HT := Lib.hid (hT.below hbl)
      have HY := Lib.hid hY
      have HGP := Lib.hid hgp
      have HQP := Lib.hid hqp
      obtain ⟨p0, p1, p2, p3⟩ := cells4 (block_in HQ1.out hD2)
      obtain ⟨y0, y1, y2, y3, y4, y5, y6, y7, y8⟩ := cells9 hqp
      rw [hY] at p0 p1 p2 p3 y0 y1 y2 y3 y4 y5 y6 y7 y8
      rw [hgp] at y0 y1 y2 y3 y4 y5 y6 y7 y8
      clear hc hfd hfd2 hUr hY hgp hqp hbl hD2 hD hT hz
      go_wp2_with fail
      rw [← HY.out, ← HGP.out]
      clear q0 q1 q2 q3 q4 q5 q6 q7 q8 y0 y1 y2 y3 y4 y5 y6 y7 y8 p0 p1 p2 p3
      refine HC.out.mono ?_
      rintro e w4 ⟨z, rfl, hz, hb⟩
      have hD4 := ext_trans HD2.out hb
      have hT4 := HT.out.below hb
      obtain ⟨y0, y1, y2, y3, y4, y5, y6, y7, y8⟩ := cells9 (block_in HQP.out hb)
      clear hb HC HY HQP HD2 HT
      rcases hz with rfl | rfl
      · go_wp2
        go_roundw
        case rel => exact ⟨k + 1, by omega, by go_num, rfl, hT4.more, hD4⟩
        case measure => simp [intOf]; omega
      · cases gal : (poAt l k).al
        · rw [gal] at y1
          obtain ⟨la, hO, hla⟩ := hT4.2.1
          have HT4 := Lib.hid hT4
          clear hT4
          go_wp2_with (at_builtin; go_must (refine wpList_pushAt (enc := ilEnc) ((k : Int)) rfl (.tmp 55) (.tmp 57) 40 3 _ 1 8 rfl Tryz.underlying40 Tryz.infoInt rfl (by decide) (fun _ => rfl) ilEnc_one rfl (hO.below (by (repeat (first | exact Below.refl _ _ | refine ext_alloc ?_ _ | refine Below.setCell ?_ (by simp) _)))) rfl (heap_alloc_at (by simp)) (by rfl) (by omega) (by omega) (Nat.le_trans hD4.size (show Below _ _ _ by (repeat (first | exact Below.refl _ _ | refine ext_alloc ?_ _ | refine Below.setCell ?_ (by simp) _))).size) ?_); intro v_ wq ho_ hb_ hg_ ha_)
          have HT5 : Hid (Two w2.heap.size (k + 1) wq _ v_) := Lib.hid ((Two.push (Two.below HT4.out.swap (below_alloc _ _)) hla ho_ hg_ ha_).swap)
          have HD5 := Lib.hid ((ext_trans hD4 (by (repeat (first | exact Below.refl _ _ | refine ext_alloc ?_ _ | refine Below.setCell ?_ (by simp) _)))).trans hb_)
          clear hO ho_ hb_ hg_ ha_ hD4
          go_wp2
          go_roundw
          case rel => exact ⟨k + 1, by omega, by go_num, rfl, HT5.out, HD5.out⟩
          case measure => simp [intOf]; omega
        · rw [gal] at y1
          obtain ⟨la, hO, hla⟩ := hT4.1
          have HT4 := Lib.hid hT4
          clear hT4
          go_wp2_with (at_builtin; go_must (refine wpList_pushAt (enc := ilEnc) ((k : Int)) rfl (.tmp 48) (.tmp 50) 40 3 _ 1 8 rfl Tryz.underlying40 Tryz.infoInt rfl (by decide) (fun _ => rfl) ilEnc_one rfl (hO.below (by (repeat (first | exact Below.refl _ _ | refine ext_alloc ?_ _ | refine Below.setCell ?_ (by simp) _)))) rfl (heap_alloc_at (by simp)) (by rfl) (by omega) (by omega) (Nat.le_trans hD4.size (show Below _ _ _ by (repeat (first | exact Below.refl _ _ | refine ext_alloc ?_ _ | refine Below.setCell ?_ (by simp) _))).size) ?_); intro v_ wq ho_ hb_ hg_ ha_)
          have HT5 : Hid (Two w2.heap.size (k + 1) wq v_ _) := Lib.hid (Two.push (Two.below HT4.out (below_alloc _ _)) hla ho_ hg_ ha_)
          have HD5 := Lib.hid ((ext_trans hD4 (by (repeat (first | exact Below.refl _ _ | refine ext_alloc ?_ _ | refine Below.setCell ?_ (by simp) _)))).trans hb_)
          clear hO ho_ hb_ hg_ ha_ hD4
          go_wp2
          go_roundw
          case rel => exact ⟨k + 1, by omega, by go_num, rfl, HT5.out, HD5.out⟩
          case measure => simp [intOf]; omega
    · obtain rfl : k = l.length := by omega
      obtain ⟨⟨la, ⟨A1, q1, rfl, _⟩, hla⟩, ⟨lf, ⟨A2, q2, rfl, _⟩, hlf⟩, _⟩ := hT
      have HBB := Lib.hid (ext_trans HB.out hD)
      have HQ3 := Lib.hid (block_in HQ2.out hD)
      obtain ⟨z0, z1, z2⟩ := cells3 HQ3.out
      obtain ⟨f0, f1, f2⟩ := froz3 HQ3.out
      clear hD
      rcases Nat.eq_zero_or_pos lf.length with hz | hz
      · rcases Nat.eq_zero_or_pos la.length with hy | hy
        · rw [hz, hy]
          go_wp2
          obtain ⟨r0, r1, r2⟩ := cells3 (box_put3 (.bool false) (.slice A1 0 q1) (.slice none 0 0) HQ3.out rfl)
          exact bodyPost_ret (v := .agg #[.bool false, .slice A1 0 q1, .slice none 0 0]) (by simp [results, go_sem, r0, r1, r2]) rfl ⟨_, _, _, _, rfl, box_put_below3 _ _ _ HGB.out.1 HBB.out⟩
        · rw [hz]
          go_wp2
          obtain ⟨r0, r1, r2⟩ := cells3 (box_put3 (.bool true) (.slice A1 la.length q1) (.slice none 0 0) HQ3.out rfl)
          exact bodyPost_ret (v := .agg #[.bool true, .slice A1 la.length q1, .slice none 0 0]) (by simp [results, go_sem, r0, r1, r2]) rfl ⟨_, _, _, _, rfl, box_put_below3 _ _ _ HGB.out.1 HBB.out⟩
      · go_wp2
        obtain ⟨r0, r1, r2⟩ := cells3 (box_put3 (.bool false) (.slice A2 lf.length q2) (.slice none 0 0) HQ3.out rfl)
        exact bodyPost_ret (v := .agg #[.bool false, .slice A2 lf.length q2, .slice none 0 0]) (by simp [results, go_sem, r0, r1, r2]) rfl ⟨_, _, _, _, rfl, box_put_below3 _ _ _ HGB.out.1 HBB.out⟩
end Go.Proofs.YtodjokdaofefdaaGreat
/- The reader of codes: pick and odd. -/
namespace Go.Proofs.YtodjokdaofefdaaGreat
set_option linter.unusedSimpArgs false
set_option linter.unusedVariables false
open Go.RowKit

/-- The reader at block br stands at p: its code reads as bytes. -/
def Rdr (w : World) (br cb : Nat) (p : Int) : Prop :=
  cb ≤ br ∧ ∃ A n c, w.heap[br]? = some (.cells #[.slice A n c, .int .i64 p] 71 (0, 0)) ∧ n ≤ 2000 ∧
    (0 < n → ∃ b off, A = some ⟨b, off, Option.none⟩ ∧ b < cb ∧ ∀ k, k < n → ∃ u : Int, (0 ≤ u ∧ u ≤ 255) ∧ w.cell? ⟨b, off + k, Option.none⟩ = some (.int .u8 u))
theorem Rdr.lt {w : World} {br cb : Nat} {p : Int} (h : Rdr w br cb p) : br < w.heap.size := by
  obtain ⟨_, A, n, c, hb, _⟩ := h
  exact (Array.getElem?_eq_some_iff.1 hb).1
theorem Rdr.cb {w : World} {br cb : Nat} {p : Int} (h : Rdr w br cb p) : cb ≤ br := h.1
theorem Rdr.below {w w' : World} {br cb : Nat} {p : Int} (h : Rdr w br cb p) (hb : Below w.heap.size w w') : Rdr w' br cb p := by
  have hlt := h.lt
  obtain ⟨h0, A, n, c, h1, h2, h3⟩ := h
  refine ⟨h0, A, n, c, (hb.block br hlt).trans h1, h2, fun hn => ?_⟩
  obtain ⟨b, off, e, hne, hc⟩ := h3 hn
  exact ⟨b, off, e, hne, fun k hk => let ⟨u, hu, hcu⟩ := hc k hk; ⟨u, hu, below_cell hb hcu⟩⟩
def PickPost (w : World) (br cb : Nat) (p n : Int) (e : Ending) (w' : World) : Prop :=
  ∃ x : Int, e = .returned (.int .i64 x) ∧ 0 ≤ x ∧ (1 ≤ n → x < n) ∧ (n < 1 → x = 0) ∧ Rdr w' br cb (p + 1) ∧ w.grownBy w' (some br)

theorem xor_nonneg (a b : Nat) (ha : a < 9223372036854775808) (hb : b < 9223372036854775808) : 0 ≤ bits .xor .i64 (a : Int) (b : Int) ∧ bits .xor .i64 (a : Int) (b : Int) ≤ 9223372036854775807 := by
  have hx : a ^^^ b < 2 ^ 63 := Nat.xor_lt_two_pow (by omega) (by omega)
  have e : bits .xor .i64 (a : Int) (b : Int) = ((a ^^^ b : Nat) : Int) := by
    show IntKind.i64.wrap ((BitVec.ofInt 64 (a : Int) ^^^ BitVec.ofInt 64 (b : Int)).toNat : Int) = _
    rw [BitVec.toNat_xor, BitVec.ofInt_natCast, BitVec.ofInt_natCast, BitVec.toNat_ofNat, BitVec.toNat_ofNat, Nat.mod_eq_of_lt (by omega), Nat.mod_eq_of_lt (by omega), IntKind.wrap_i64]
    omega
  rw [e]
  omega
theorem xor_pos {x : Int} (h0 : 0 ≤ x) (h1 : x ≤ 1000000000000000) : 0 ≤ bits .xor .i64 x (x / 64) ∧ bits .xor .i64 x (x / 64) ≤ 9223372036854775807 := by
  obtain ⟨n, rfl⟩ := Int.eq_ofNat_of_zero_le h0
  have := xor_nonneg n (n / 64) (by omega) (by omega)
  rwa [Int.natCast_ediv] at this

theorem rdr_set {w : World} {br cb : Nat} {p : Int} (h : Rdr w br cb p) : Rdr (w.setCell ⟨br, 1, Option.none⟩ (.int .i64 (p + 1))) br cb (p + 1) ∧ w.grownBy (w.setCell ⟨br, 1, Option.none⟩ (.int .i64 (p + 1))) (some br) := by
  obtain ⟨h0, A, n, c, h1, h2, h3⟩ := h
  have hg : w.grownBy (w.setCell ⟨br, 1, Option.none⟩ (.int .i64 (p + 1))) (some br) := ⟨rfl, rfl, rfl, by simp [World.setCell], fun k _ hk => Below.heap_setCell w ⟨br, 1, Option.none⟩ _ k (fun e => hk (by simp [e]))⟩
  refine ⟨⟨h0, A, n, c, ?_, h2, fun hn => ?_⟩, hg⟩
  · simp [World.setCell, Array.getElem?_modify, h1]
  · obtain ⟨b, off, e, hne, hc⟩ := h3 hn
    exact ⟨b, off, e, hne, fun k hk => let ⟨u, hu, hcu⟩ := hc k hk; ⟨u, hu, hg.cell hcu (by simp; omega)⟩⟩

set_option maxRecDepth 100000 in
set_option maxHeartbeats 4000000 in
theorem pick_any {br cb : Nat} {p n : Int} {w : World} (hR : Rdr w br cb p) (hp0 : 0 ≤ p) (hp1 : p ≤ 1000000000) (hn : n ≤ 1000000) :
    Calls Tryz.prog 16 #[.pointer (some ⟨br, 0, Option.none⟩), .int .i64 n] w (PickPost w br cb p n) := by
  obtain ⟨hR2, hG⟩ := rdr_set hR
  have hlt := hR.lt
  obtain ⟨h0, A, m, c, hb, hm, hcode⟩ := hR
  have c0 : w.cell? ⟨br, 0, Option.none⟩ = some (.slice A m c) := cell_of_row w br 0 _ _ (0, 0) hb
  have c1 : w.cell? ⟨br, 1, Option.none⟩ = some (.int .i64 p) := cell_of_row w br 1 _ _ (0, 0) hb
  have f1 : w.frozen? ⟨br, 1, Option.none⟩ = false := frozen_of_row w br 1 _ _ hb
  have d0 : (w.setCell ⟨br, 1, Option.none⟩ (.int .i64 (p + 1))).cell? ⟨br, 0, Option.none⟩ = some (.slice A m c) := by rw [World.cell?_setCell_other w _ _ _ (by simp)]; exact c0
  have d1 : (w.setCell ⟨br, 1, Option.none⟩ (.int .i64 (p + 1))).cell? ⟨br, 1, Option.none⟩ = some (.int .i64 (p + 1)) := by rw [cell_of_row _ br 1 _ _ (0, 0) (hR2.2.choose_spec.choose_spec.choose_spec.1)]; rfl
  by_cases h1 : n < 1
  · go_enter Tryz.func16, Tryz.ntmps16
    go_wp2
    go_ret
    exact ⟨0, rfl, by omega, by omega, fun _ => rfl, hR2, hG⟩
  · rcases Nat.eq_zero_or_pos m with hm0 | hm0
    · subst hm0
      go_enter Tryz.func16, Tryz.ntmps16
      go_wp2
      go_ret
      exact ⟨0, rfl, by omega, by omega, fun _ => rfl, hR2, hG⟩
    · have hm1 : ((m : Int) == 0) = false := by simp; omega
      obtain ⟨b, off, rfl, hne, hc⟩ := hcode hm0
      by_cases h2 : p < m
      · obtain ⟨k, rfl⟩ := Int.eq_ofNat_of_zero_le hp0
        obtain ⟨u, ⟨hu0, hu1⟩, hcu⟩ := hc k (by omega)
        have e1 := hG.cell hcu (by simp; omega)
        go_enter Tryz.func16, Tryz.ntmps16
        go_wp2
        go_ret
        exact ⟨_, rfl, Int.emod_nonneg _ (by omega), fun _ => Int.emod_lt_of_pos _ (by omega), fun h => by omega, hR2, hG⟩
      · have hmp : (0 : Int) < m := by omega
        have i0 := Int.emod_nonneg p (b := (m : Int)) (by omega)
        have i1 := Int.emod_lt_of_pos p (b := (m : Int)) (by omega)
        have j0 := Int.emod_nonneg (p * 7 + 3) (b := (m : Int)) (by omega)
        have j1 := Int.emod_lt_of_pos (p * 7 + 3) (b := (m : Int)) (by omega)
        obtain ⟨u1, ⟨u10, u11⟩, hu1⟩ := hc (p % m).toNat (by omega)
        obtain ⟨u2, ⟨u20, u21⟩, hu2⟩ := hc ((p * 7 + 3) % m).toNat (by omega)
        have v0 := Int.ediv_nonneg hp0 (Int.le_of_lt hmp)
        have v1 := Int.ediv_le_self (m : Int) hp0
        obtain ⟨x0, x1⟩ := xor_pos (x := u1 * 131 + u2 * 1117 + p * 29 + p / m * 53) (by omega) (by omega)
        have l1 := cell_regrown (hG.cell hu1 (by simp; omega))
        have l2 := cell_regrown (hG.cell hu2 (by simp; omega))
        have k0 := cell_regrown d0
        have k1 := cell_regrown d1
        go_enter Tryz.func16, Tryz.ntmps16
        go_wp2
        refine wp_region_quiet_below (by kernel_rfl) (by kernel_rfl) ?_
        repeat (go_big_quiet_step (fail))
        refine wpQuiet_nil ?_
        intro w2 hw2
        have hb2 := below_of_regrown hw2 (Nat.le_refl _)
        clear hw2
        go_wp2
        go_ret
        exact ⟨_, rfl, Int.emod_nonneg _ (by omega), fun _ => Int.emod_lt_of_pos _ (by omega), fun h => by omega, hR2.below hb2, grown_trans_ hG ⟨hb2.os, hb2.tape, hb2.output, hb2.size, fun k hk _ => hb2.block k hk⟩⟩
end Go.Proofs.YtodjokdaofefdaaGreat
/- The reader of codes: odd and open. -/
namespace Go.Proofs.YtodjokdaofefdaaGreat
set_option linter.unusedSimpArgs false
set_option linter.unusedVariables false
open Go.RowKit

def OddPost (w : World) (br cb : Nat) (p : Int) (e : Ending) (w' : World) : Prop :=
  ∃ (x : Bool) (p' : Int), e = .returned (.bool x) ∧ p ≤ p' ∧ p' ≤ p + 1 ∧ Rdr w' br cb p' ∧ w.grownBy w' (some br)

set_option maxHeartbeats 1000000 in
theorem odd_any {br cb : Nat} {p n : Int} {w : World} (hR : Rdr w br cb p) (hp0 : 0 ≤ p) (hp1 : p ≤ 1000000000) (hn0 : 0 ≤ n) (hn : n ≤ 1000000) :
    Calls Tryz.prog 32 #[.pointer (some ⟨br, 0, Option.none⟩), .int .i64 n] w (OddPost w br cb p) := by
  by_cases h : 0 < n
  · go_enter Tryz.func32, Tryz.ntmps32
    go_wp2_with fail
    refine (pick_any hR hp0 hp1 hn).mono ?_
    rintro e w1 ⟨x, rfl, hx0, hx1, _, hR1, hG1⟩
    go_wp2
    all_goals
      go_ret
      exact ⟨_, p + 1, rfl, by omega, by omega, hR1, hG1⟩
  · obtain rfl : n = 0 := by omega
    go_enter Tryz.func32, Tryz.ntmps32
    go_wp2
    go_ret
    exact ⟨_, p, rfl, by omega, by omega, hR, World.grownBy.refl _ _⟩

/-- A code that came in. -/
def CodeR (w : World) (cb : Nat) (A : Option Addr) (l : List Int) : Prop :=
  l.length ≤ 9223372036854775807 ∧ (0 < l.length → ∃ b off, A = some ⟨b, off, Option.none⟩ ∧ b < cb ∧ ∀ k, k < l.length → ∃ u : Int, (0 ≤ u ∧ u ≤ 255) ∧ w.cell? ⟨b, off + k, Option.none⟩ = some (.int .u8 u))
theorem CodeR.below {w w' : World} {cb : Nat} {A : Option Addr} {l : List Int} (h : CodeR w cb A l) (hb : Below w.heap.size w w') : CodeR w' cb A l :=
  ⟨h.1, fun hn => let ⟨b, off, e, hb0, hc⟩ := h.2 hn; ⟨b, off, e, hb0, fun k hk => let ⟨u, hu, hcu⟩ := hc k hk; ⟨u, hu, below_cell hb hcu⟩⟩⟩
theorem rdr_new {w : World} {cb : Nat} {A : Option Addr} {n c : Nat} {l : List Int} (hcb : cb ≤ w.heap.size) (h : CodeR w cb A l) (hn : n ≤ 2000) (hnl : n ≤ l.length) : Rdr (w.alloc (.cells #[.slice A n c, .int .i64 0] 71)) w.heap.size cb 0 := by
  refine ⟨hcb, A, n, c, heap_alloc_new w _, hn, fun h0 => ?_⟩
  obtain ⟨b, off, e, hb0, hc⟩ := h.2 (by omega)
  refine ⟨b, off, e, hb0, fun k hk => ?_⟩
  · obtain ⟨u, hu, hcu⟩ := hc k (by omega)
    exact ⟨u, hu, below_cell (below_alloc w _) hcu⟩

set_option maxHeartbeats 1000000 in
theorem l20Open_any {A : Option Addr} {l : List Int} {c cb : Nat} {w : World} (hcb : cb ≤ w.heap.size) (hC : CodeR w cb A l) (hc : l.length ≤ c) (hl : l.length ≤ 9223372036854775807) :
    Calls Tryz.prog 12 #[.slice A l.length c] w fun e w' => e = .returned (.pointer (some ⟨w.heap.size, 0, Option.none⟩)) ∧ Rdr w' w.heap.size cb 0 ∧ Below w.heap.size w w' := by
  by_cases h : 2000 < l.length
  · obtain ⟨b, off, rfl, _⟩ := hC.2 (by omega)
    go_enter Tryz.func12, Tryz.ntmps12
    go_wp2
    go_ret
    exact ⟨rfl, rdr_new hcb hC (by omega) (by omega), below_alloc _ _⟩
  · go_enter Tryz.func12, Tryz.ntmps12
    go_wp2
    go_ret
    exact ⟨rfl, rdr_new hcb hC (by omega) (by omega), below_alloc _ _⟩
end Go.Proofs.YtodjokdaofefdaaGreat
/- Draws: kinds of drawn values, and what becomes of them while the draw goes on. -/
namespace Go.Proofs.YtodjokdaofefdaaGreat
set_option linter.unusedSimpArgs false
set_option linter.unusedVariables false
open Go.RowKit

theorem Rdr.grown {w w' : World} {br cb : Nat} {p : Int} {row : Option Nat} (h : Rdr w br cb p) (hg : w.grownBy w' row) (hr : ∀ k, row = some k → k ≠ br ∧ cb ≤ k) : Rdr w' br cb p := by
  have hlt := h.lt
  obtain ⟨h0, A, n, c, h1, h2, h3⟩ := h
  refine ⟨h0, A, n, c, (hg.block br hlt (fun e => (hr br e.symm).1 rfl)).trans h1, h2, fun hn => ?_⟩
  obtain ⟨b, off, e, hne, hc⟩ := h3 hn
  exact ⟨b, off, e, hne, fun k hk => let ⟨u, hu, hcu⟩ := hc k hk; ⟨u, hu, hg.cell hcu (fun e => by have := (hr b e.symm).2; omega)⟩⟩
/-- The reader at br has drawn at most N times. -/
def RdrT (w : World) (br cb N : Nat) : Prop := ∃ p : Int, 0 ≤ p ∧ p ≤ N ∧ Rdr w br cb p
section
variable {w w' : World} {br cb N N' : Nat}
theorem RdrT.mono (h : RdrT w br cb N) (hN : N ≤ N') : RdrT w br cb N' := let ⟨p, h1, h2, h3⟩ := h; ⟨p, h1, by omega, h3⟩
theorem RdrT.below (h : RdrT w br cb N) (hb : Below w.heap.size w w') : RdrT w' br cb N := let ⟨p, h1, h2, h3⟩ := h; ⟨p, h1, h2, h3.below hb⟩
theorem RdrT.grown {row : Option Nat} (h : RdrT w br cb N) (hg : w.grownBy w' row) (hr : ∀ k, row = some k → k ≠ br ∧ cb ≤ k) : RdrT w' br cb N := let ⟨p, h1, h2, h3⟩ := h; ⟨p, h1, h2, h3.grown hg hr⟩
theorem RdrT.lt (h : RdrT w br cb N) : br < w.heap.size := let ⟨_, _, _, h3⟩ := h; h3.lt
end
theorem grown_of_below {w w' : World} (h : Below w.heap.size w w') (row : Option Nat) : w.grownBy w' row := ⟨h.os, h.tape, h.output, h.size, fun k hk _ => h.block k hk⟩
theorem grown_alloc_ (w : World) (o : Obj) (row : Option Nat) : w.grownBy (w.alloc o) row := grown_of_below (below_alloc w o) row
theorem pick_d {br cb N : Nat} {n : Int} {w : World} (hR : RdrT w br cb N) (hN : N ≤ 1000000000) (h1 : 1 ≤ n) (hn : n ≤ 1000000) :
    Calls Tryz.prog 16 #[.pointer (some ⟨br, 0, Option.none⟩), .int .i64 n] w fun e w' => ∃ x : Int, e = .returned (.int .i64 x) ∧ 0 ≤ x ∧ x < n ∧ RdrT w' br cb (N + 1) ∧ w.grownBy w' (some br) := by
  obtain ⟨p, hp0, hp1, hR⟩ := hR
  refine (pick_any hR hp0 (by omega) hn).mono ?_
  rintro e w' ⟨x, rfl, h2, h3, _, h4, h5⟩
  exact ⟨x, rfl, h2, h3 h1, ⟨p + 1, by omega, by omega, h4⟩, h5⟩
theorem odd_d {br cb N : Nat} {n : Int} {w : World} (hR : RdrT w br cb N) (hN : N ≤ 1000000000) (h1 : 0 ≤ n) (hn : n ≤ 1000000) :
    Calls Tryz.prog 32 #[.pointer (some ⟨br, 0, Option.none⟩), .int .i64 n] w fun e w' => ∃ x : Bool, e = .returned (.bool x) ∧ RdrT w' br cb (N + 1) ∧ w.grownBy w' (some br) := by
  obtain ⟨p, hp0, hp1, hR⟩ := hR
  refine (odd_any hR hp0 (by omega) h1 hn).mono ?_
  rintro e w' ⟨x, p', rfl, h2, h3, h4, h5⟩
  exact ⟨x, rfl, ⟨p', by omega, by omega, h4⟩, h5⟩

/-! ### Kinds -/
def IsI (lo hi : Int) (v : Value) : Prop := ∃ x : Int, v = .int .i64 x ∧ lo ≤ x ∧ x ≤ hi
theorem IsI.mono {lo hi lo' hi' : Int} {v : Value} (h : IsI lo hi v) (h1 : lo' ≤ lo) (h2 : hi ≤ hi') : IsI lo' hi' v := let ⟨x, e, a, b⟩ := h; ⟨x, e, by omega, by omega⟩
def CellsP (P : List Value → Prop) (w : World) (g o : Nat) : Prop := ∃ cs, P cs ∧ ∀ (j : Nat) u, cs[j]? = some u → w.cell? ⟨g, o + j, Option.none⟩ = some u
def SlP (B sz n : Nat) (P : List Value → Prop) (w : World) (v : Value) : Prop := n ≤ 9223372036854775807 ∧ ∃ g c, v = .slice (some ⟨g, 0, Option.none⟩) n c ∧ B ≤ g ∧ ∀ k, k < n → CellsP P w g (k * sz)
section
variable {B sz n : Nat} {P : List Value → Prop} {w w' : World} {v : Value} {g o : Nat}
end
def AllP (P : List Value → Prop) : List (List Value) → Prop
  | [] => True
  | x :: l => P x ∧ AllP P l
theorem AllP.at {P : List Value → Prop} : ∀ {l : List (List Value)}, AllP P l → ∀ k (h : k < l.length), P l[k]
  | _ :: _, h, 0, _ => h.1
  | _ :: l, h, k + 1, hk => AllP.at (l := l) h.2 k (by simpa using hk)
/-- A row as a list of flat elements. -/
theorem SlP.rd {α : Type} {enc : α → List Value} {B sz n : Nat} {P : List Value → Prop} {w : World} {v : Value} (h : SlP B sz n P w v) (hsz : ∀ a, (enc a).length = sz) (Q : α → Prop) (hP : ∀ cs, P cs → ∃ a, Q a ∧ cs = enc a) :
    ∃ (l : List α) (A : Option Addr) (c : Nat), v = .slice A l.length c ∧ l.length = n ∧ (∀ a ∈ l, Q a) ∧ RdL (Flat enc) sz w A l := by
  obtain ⟨hn, g, c, rfl, hB, hc⟩ := h
  have hch : ∀ n, n ≤ 9223372036854775807 → (∀ k, k < n → CellsP P w g (k * sz)) → ∃ l : List α, l.length = n ∧ (∀ a ∈ l, Q a) ∧ ∀ k (hk : k < l.length) j u, (enc l[k])[j]? = some u → w.cell? ⟨g, k * sz + j, Option.none⟩ = some u := by
    intro n
    induction n with
    | zero => intro _ _; exact ⟨[], rfl, by simp, by simp⟩
    | succ n ih =>
      intro hn hc
      obtain ⟨l, h1, h2, h3⟩ := ih (by omega) (fun k hk => hc k (by omega))
      obtain ⟨cs, hp, hcs⟩ := hc n (by omega)
      obtain ⟨a, ha, rfl⟩ := hP cs hp
      refine ⟨l ++ [a], by simp [h1], fun b hb => ?_, fun k hk j u hu => ?_⟩
      · rcases List.mem_append.1 hb with hb | hb
        · exact h2 b hb
        · rw [List.mem_singleton.1 hb]; exact ha
      · by_cases e : k < l.length
        · rw [List.getElem_append_left e] at hu; exact h3 k e j u hu
        · have e2 : k = n := by simp at hk; omega
          subst e2
          rw [List.getElem_append_right (by omega)] at hu
          simp [h1] at hu
          exact hcs j u hu
  obtain ⟨l, h1, h2, h3⟩ := hch n hn hc
  refine ⟨l, some ⟨g, 0, Option.none⟩, c, by rw [h1], h1, h2, by omega, fun _ => ⟨g, 0, rfl, fun k hk => ⟨enc l[k], hsz _, rfl, fun j u hu => by rw [Nat.zero_add]; exact h3 k hk j u hu⟩⟩⟩

/-- A row of one's own, drawn: at most n elements of the kind Q. -/
def DrS {α : Type} (B : Nat) (e : TypeId) (sz : Nat) (enc : α → List Value) (n : Nat) (Q : α → Prop) (w : World) (v : Value) : Prop := ∃ l : List α, l.length ≤ n ∧ (∀ a ∈ l, Q a) ∧ OwnA B e sz enc w v l
section
variable {α : Type} {B B' : Nat} {e : TypeId} {sz n n' : Nat} {enc : α → List Value} {Q : α → Prop} {w w' : World} {v : Value}
theorem DrS.grown {row : Option Nat} (h : DrS B e sz enc n Q w v) (hg : w.grownBy w' row) (hr : ∀ k, row = some k → k < B) : DrS B e sz enc n Q w' v := by
  obtain ⟨l, h1, h2, A, c, rfl, ho⟩ := h
  exact ⟨l, h1, h2, A, c, rfl, own_apart_ ho hg (fun k hk e => by have := (ho.lt k hk).1; have := hr k e; omega)⟩
theorem DrS.below (h : DrS B e sz enc n Q w v) (hb : Below w.heap.size w w') : DrS B e sz enc n Q w' v := h.grown (grown_of_below hb Option.none) (fun k e => by cases e)
theorem DrS.lower (h : DrS B e sz enc n Q w v) (hB : B' ≤ B) : DrS B' e sz enc n Q w v := let ⟨l, h1, h2, h3⟩ := h; ⟨l, h1, h2, h3.lower hB⟩
theorem DrS.mono (h : DrS B e sz enc n Q w v) (hn : n ≤ n') : DrS B e sz enc n' Q w v := let ⟨l, h1, h2, h3⟩ := h; ⟨l, by omega, h2, h3⟩
theorem DrS.apart {row : Option Nat} (h : DrS B e sz enc n Q w v) (hg : w.grownBy w' row) (hr : ∀ k, v.ownBlock = some k → row ≠ some k) : DrS B e sz enc n Q w' v := by
  obtain ⟨l, h1, h2, A, c, rfl, ho⟩ := h
  exact ⟨l, h1, h2, A, c, rfl, own_apart_ ho hg hr⟩
theorem DrS.ge (h : DrS B e sz enc n Q w v) (k : Nat) (hk : v.ownBlock = some k) : B ≤ k := by
  obtain ⟨l, _, _, A, c, rfl, ho⟩ := h
  exact (ho.lt k hk).1
theorem DrS.empty (hB : B ≤ w.heap.size) : DrS B e sz enc 0 Q (w.alloc (.cells #[] e)) (.slice (some ⟨w.heap.size, 0, Option.none⟩) 0 0) :=
  ⟨[], by simp, by simp, _, 0, rfl, by simp, .inr ⟨w.heap.size, 0, #[], rfl, hB, heap_alloc_new w _, Nat.le_refl _, by simp [maxLen], by simp, by simp⟩⟩
theorem DrS.nil : DrS B e sz enc n Q w (.slice Option.none 0 0) := ⟨[], by simp, by simp, _, 0, rfl, World.ownsRow_nil _ _ _ _⟩
end
/-- Only rows of the kind R have turned. -/
def GrownP (R : Nat → Prop) (w w' : World) : Prop := w'.os = w.os ∧ w'.tape = w.tape ∧ w'.output = w.output ∧ w.heap.size ≤ w'.heap.size ∧ ∀ k, k < w.heap.size → ¬ R k → w'.heap[k]? = w.heap[k]?
section
variable {R : Nat → Prop} {a b c : World} {row : Option Nat}
theorem GrownP.refl (R : Nat → Prop) (w : World) : GrownP R w w := ⟨rfl, rfl, rfl, Nat.le_refl _, fun _ _ _ => rfl⟩
theorem GrownP.drew (h : GrownP R a b) : GrownP R a b.drew := h
theorem GrownP.step (h : GrownP R a b) (hg : b.grownBy c row) (hr : ∀ k, row = some k → R k ∨ a.heap.size ≤ k) : GrownP R a c :=
  ⟨hg.os.trans h.1, hg.tape.trans h.2.1, hg.output.trans h.2.2.1, Nat.le_trans h.2.2.2.1 hg.size, fun k hk hn => (hg.block k (Nat.lt_of_lt_of_le hk h.2.2.2.1) (fun e => by rcases hr k e.symm with h | h; exact hn h; omega)).trans (h.2.2.2.2 k hk hn)⟩
theorem GrownP.size (h : GrownP R a b) : a.heap.size ≤ b.heap.size := h.2.2.2.1
end
/-- A variable of its own, in block g. -/
def BoxP (P : List Value → Prop) (T : TypeId) (g : Nat) (w : World) : Prop := ∃ cs : List Value, P cs ∧ w.heap[g]? = some (.cells cs.toArray T (0, 0))
section
variable {P P' : List Value → Prop} {T : TypeId} {g : Nat} {w w' : World} {row : Option Nat}
theorem BoxP.lt (h : BoxP P T g w) : g < w.heap.size := let ⟨_, _, h2⟩ := h; (Array.getElem?_eq_some_iff.1 h2).1
theorem BoxP.grown (h : BoxP P T g w) (hg : w.grownBy w' row) (hr : row ≠ some g) : BoxP P T g w' := let ⟨cs, h1, h2⟩ := h; ⟨cs, h1, (hg.block g (Array.getElem?_eq_some_iff.1 h2).1 (fun e => hr e.symm)).trans h2⟩
theorem BoxP.below (h : BoxP P T g w) (hb : Below w.heap.size w w') : BoxP P T g w' := let ⟨cs, h1, h2⟩ := h; ⟨cs, h1, (hb.block g (Array.getElem?_eq_some_iff.1 h2).1).trans h2⟩
theorem setCells_at {g : Nat} {T : TypeId} {fr : Nat × Nat} (vs : List Value) : ∀ {w : World} {cs : List Value} (o : Nat), w.heap[g]? = some (.cells cs.toArray T fr) → o + vs.length ≤ cs.length → (setCells w g o vs).heap[g]? = some (.cells (cs.take o ++ vs ++ cs.drop (o + vs.length)).toArray T fr) := by
  induction vs with
  | nil => intro w cs o h _; simpa [setCells] using h
  | cons v vs ih =>
    intro w cs o h ho
    simp only [List.length_cons] at ho
    have h1 : (w.setCell ⟨g, o, Option.none⟩ v).heap[g]? = some (.cells (cs.set o v).toArray T fr) := by
      simp [World.setCell, Array.getElem?_modify, h]
    have h2 := ih (o + 1) h1 (by simp; omega)
    rw [setCells, h2]
    congr 3
    rw [List.drop_set_of_lt (by omega), List.take_succ_eq_append_getElem (by rw [List.length_set]; omega)]
    simp only [List.getElem_set_self, List.length_cons]
    rw [List.take_set_of_le (Nat.le_refl _), show o + 1 + vs.length = o + (vs.length + 1) by omega]
    simp
theorem BoxP.put (vs : List Value) (h : BoxP P T g w) (hl : ∀ cs, P cs → cs.length = vs.length) (hP : P' vs) : BoxP P' T g (setCells w g 0 vs) := by
  obtain ⟨cs, h1, h2⟩ := h
  have hlen := hl cs h1
  refine ⟨vs, hP, ?_⟩
  rw [setCells_at vs 0 h2 (by omega)]
  simp [List.drop_of_length_le, hlen]
end
section
variable {app : Option Nat} {B1 br i : Nat} {w w' : World}
end
end Go.Proofs.YtodjokdaofefdaaGreat
/- Kinds of values, for drawn arguments: a value's kind stays whatever typed writes come. -/
namespace Go.Proofs.YtodjokdaofefdaaGreat
set_option linter.unusedSimpArgs false
set_option linter.unusedVariables false
open Go.RowKit

/-- A kind of values. -/
abbrev VK := World → Value → Prop
section
variable (B br : Nat)
/-- A block of one's own: elements of the type e; room for m; the cells of the first t are of the kinds ks. -/
def BlkK (e : TypeId) (ks : List VK) (t m : Nat) (w : World) (g : Nat) : Prop := B ≤ g ∧ g ≠ br ∧ ∃ cs, w.heap[g]? = some (.cells cs e (0, 0)) ∧ m * ks.length ≤ cs.size ∧ ∀ (q f : Nat) k u, q < t → ks[f]? = some k → cs[q * ks.length + f]? = some u → k w u
/-- A slice of at most m elements. -/
def SlK (e : TypeId) (ks : List VK) (m : Nat) : VK := fun w v => v = .slice Option.none 0 0 ∨ ∃ g o n c, v = .slice (some ⟨g, o * ks.length, Option.none⟩) n c ∧ n ≤ m ∧ n ≤ c ∧ c ≤ 9223372036854775807 ∧ BlkK B br e ks (o + n) (o + c) w g
/-- A slice that was written out, of n elements. -/
def LitK (e : TypeId) (ks : List VK) (n : Nat) : VK := fun w v => ∃ g, v = .slice (some ⟨g, 0, Option.none⟩) n n ∧ BlkK B br e ks n n w g
/-- What an operation may do to memory: blocks of types in S may get cells of their kinds; the reader turns; nothing else does. -/
def RelK (S : TypeId → Bool) (sh : TypeId → List VK) (w w' : World) : Prop := w.heap.size ≤ w'.heap.size ∧ ∀ g cs T, B ≤ g → g ≠ br → w.heap[g]? = some (.cells cs T (0, 0)) →
  ∃ cs', w'.heap[g]? = some (.cells cs' T (0, 0)) ∧ cs'.size = cs.size ∧ (S T = false → cs' = cs) ∧ (S T = true → ∀ (q f : Nat) k u, (sh T)[f]? = some k → cs'[q * (sh T).length + f]? = some u → cs[q * (sh T).length + f]? = some u ∨ k w u)
def StabK (S : TypeId → Bool) (sh : TypeId → List VK) (k : VK) : Prop := ∀ w w' v, RelK B br S sh w w' → k w v → k w' v
end
section
variable {B br : Nat} {S : TypeId → Bool} {sh : TypeId → List VK} {w w' w'' : World} {v : Value} {g n m t : Nat} {e : TypeId} {ks : List VK}
theorem BlkK.rel (hks : ∀ k ∈ ks, StabK B br S sh k) (hS : S e = true → sh e = ks) (hr : RelK B br S sh w w') (h : BlkK B br e ks t m w g) : BlkK B br e ks t m w' g := by
  obtain ⟨h1, h2, cs, h3, h4, h5⟩ := h
  obtain ⟨cs', g1, g2, g3, g4⟩ := hr.2 g cs e h1 h2 h3
  refine ⟨h1, h2, cs', g1, by omega, fun q f k u hq hk hu => ?_⟩
  have hst := hks k (List.mem_of_getElem? hk)
  cases hSe : S e with
  | false =>
    rw [g3 hSe] at hu
    exact hst w w' u hr (h5 q f k u hq hk hu)
  | true =>
    have he := hS hSe
    rcases g4 hSe q f k u (by rw [he]; exact hk) (by rw [he]; exact hu) with h6 | h6
    · rw [he] at h6; exact hst w w' u hr (h5 q f k u hq hk h6)
    · exact hst w w' u hr h6
theorem stab_sl (hks : ∀ k ∈ ks, StabK B br S sh k) (hS : S e = true → sh e = ks) : StabK B br S sh (SlK B br e ks m) := fun w w' v hr h => by
  rcases h with h | ⟨g, o, n, c, h1, h2, h3, h4, h5⟩
  · exact .inl h
  · exact .inr ⟨g, o, n, c, h1, h2, h3, h4, h5.rel hks hS hr⟩
theorem BlkK.le {m' t' : Nat} (h : BlkK B br e ks t m w g) (ht : t' ≤ t) (hm : m' ≤ m) : BlkK B br e ks t' m' w g := by
  obtain ⟨h1, h2, cs, h3, h4, h5⟩ := h
  exact ⟨h1, h2, cs, h3, Nat.le_trans (Nat.mul_le_mul_right _ hm) h4, fun q f k u hq hk hu => h5 q f k u (by omega) hk hu⟩
theorem BlkK.lower {B' : Nat} (hB : B' ≤ B) (hks : ∀ k ∈ ks, True) (h : BlkK B br e ks t m w g) : BlkK B' br e ks t m w g := by
  obtain ⟨h1, h2, h3⟩ := h
  exact ⟨Nat.le_trans hB h1, h2, h3⟩
/-- The cells of an element. -/
theorem BlkK.cell (h : BlkK B br e ks t m w g) (htm : t ≤ m) {q f : Nat} (hq : q < t) {k : VK} (hk : ks[f]? = some k) : ∃ u, w.cell? ⟨g, q * ks.length + f, Option.none⟩ = some u ∧ k w u := by
  obtain ⟨h1, h2, cs, h3, h4, h5⟩ := h
  have hf : f < ks.length := (List.getElem?_eq_some_iff.1 hk).1
  have h6 := Nat.mul_le_mul_right ks.length (show q + 1 ≤ m by omega)
  rw [Nat.succ_mul] at h6
  have hlt : q * ks.length + f < cs.size := by omega
  refine ⟨cs[q * ks.length + f], ?_, h5 q f k _ hq hk (by rw [Array.getElem?_eq_getElem hlt])⟩
  rw [cell_of_row w g _ cs e (0, 0) h3, Array.getElem?_eq_getElem hlt]
theorem BlkK.free (h : BlkK B br e ks t m w g) (j : Nat) : w.frozen? ⟨g, j, Option.none⟩ = false := by
  obtain ⟨h1, h2, cs, h3, _⟩ := h
  exact frozen_of_row w g j _ _ h3
theorem RelK.refl (w : World) : RelK B br S sh w w := ⟨Nat.le_refl _, fun _ cs _ _ _ h => ⟨cs, h, rfl, fun _ => rfl, fun _ _ _ _ _ _ hu => .inl hu⟩⟩
theorem RelK.grown {row : Option Nat} (hg : w.grownBy w' row) (hr : ∀ k, row = some k → k = br ∨ k < B) : RelK B br S sh w w' :=
  ⟨hg.size, fun g cs T h1 h2 h3 => ⟨cs, (hg.block g (Array.getElem?_eq_some_iff.1 h3).1 (fun e => by rcases hr g e.symm with h | h; exact h2 h; omega)).trans h3, rfl, fun _ => rfl, fun _ _ _ _ _ _ hu => .inl hu⟩⟩
theorem RelK.below (hb : Below w.heap.size w w') : RelK B br S sh w w' := RelK.grown (grown_of_below hb Option.none) (fun k e => by cases e)
theorem RelK.alloc (w : World) (o : Obj) : RelK B br S sh w (w.alloc o) := RelK.below (below_alloc w o)
theorem RelK.drew (w : World) : RelK B br S sh w w.drew := RelK.refl w
theorem setCells_other (g : Nat) (vs : List Value) (w : World) (o k : Nat) (hk : k ≠ g) : (setCells w g o vs).heap[k]? = w.heap[k]? := by
  by_cases hlt : k < w.heap.size
  · exact (setCells_grown g vs w o).block k hlt (by simpa using hk)
  · rw [Array.getElem?_eq_none (by rw [setCells_size]; omega), Array.getElem?_eq_none (by omega)]
/-- Cells are stored, each of its kind. -/
theorem RelK.storeAt {start : Nat} {vs : List Value} (h : BlkK B br e ks t m w g) (hS : S e = true) (he : sh e = ks) (hl0 : start + vs.length ≤ m * ks.length)
    (hv : ∀ (q f : Nat) k u, ks[f]? = some k → start ≤ q * ks.length + f → vs[q * ks.length + f - start]? = some u → k w u) : RelK B br S sh w (setCells w g start vs) := by
  obtain ⟨h1, h2, cs, h3, h4, h5⟩ := h
  have hl : start + vs.length ≤ cs.toList.length := by simp; omega
  have hat := setCells_at (T := e) (fr := (0, 0)) vs (cs := cs.toList) start (by simpa using h3) hl
  refine ⟨by rw [setCells_size]; exact Nat.le_refl _, fun k cs1 T g1 g2 g3 => ?_⟩
  by_cases ek : k = g
  · subst ek
    rw [h3] at g3
    simp only [Option.some.injEq, Obj.cells.injEq, and_true] at g3
    obtain ⟨rfl, rfl⟩ := g3
    refine ⟨_, hat, (by simp; simp at hl; omega), (fun hn => by rw [hS] at hn; cases hn), fun _ q' f' k' u hk hu => ?_⟩
    rw [he] at hk hu ⊢
    simp only [List.getElem?_toArray, List.append_assoc] at hu
    by_cases a1 : q' * ks.length + f' < start
    · rw [List.getElem?_append_left (by simp at hl ⊢; omega), List.getElem?_take_of_lt a1] at hu
      exact .inl (by simpa using hu)
    · rw [List.getElem?_append_right (by simp; omega)] at hu
      have e1 : (cs.toList.take start).length = start := by simp at hl ⊢; omega
      rw [e1] at hu
      by_cases a2 : q' * ks.length + f' - start < vs.length
      · rw [List.getElem?_append_left a2] at hu
        exact .inr (hv q' f' k' u hk (by omega) hu)
      · rw [List.getElem?_append_right (by omega), List.getElem?_drop] at hu
        rw [show start + vs.length + (q' * ks.length + f' - start - vs.length) = q' * ks.length + f' by omega] at hu
        exact .inl (by simpa using hu)
  · exact ⟨cs1, by rw [setCells_other g vs w _ k ek]; exact g3, rfl, fun _ => rfl, fun _ _ _ _ _ _ hu => .inl hu⟩
theorem one_elem {q q' f f' len n : Nat} (hf' : f' < len) (hfn : f + n ≤ len) (h1 : q * len + f ≤ q' * len + f') (h2 : q' * len + f' - (q * len + f) < n) : q' = q := by
  rcases Nat.lt_trichotomy q' q with c | c | c
  · have := Nat.mul_le_mul_right len c
    rw [Nat.succ_mul] at this
    omega
  · exact c
  · have := Nat.mul_le_mul_right len c
    rw [Nat.succ_mul] at this
    omega
/-- Cells of an element are stored. -/
theorem RelK.store {q f : Nat} {vs : List Value} (h : BlkK B br e ks t m w g) (hS : S e = true) (he : sh e = ks) (hq : q < m) (hf : f + vs.length ≤ ks.length)
    (hv : ∀ (i : Nat) k u, ks[f + i]? = some k → vs[i]? = some u → k w u) : RelK B br S sh w (setCells w g (q * ks.length + f) vs) := by
  have h6 := Nat.mul_le_mul_right ks.length hq
  rw [Nat.succ_mul] at h6
  refine RelK.storeAt h hS he (by omega) (fun q' f' k u hk hs hu => ?_)
  have hf' : f' < ks.length := (List.getElem?_eq_some_iff.1 hk).1
  have hlt := (List.getElem?_eq_some_iff.1 hu).1
  obtain rfl := one_elem hf' hf hs hlt
  refine hv (f' - f) k u ?_ ?_
  · rwa [show f + (f' - f) = f' by omega]
  · rwa [show q' * ks.length + f' - (q' * ks.length + f) = f' - f by omega] at hu
/-- More elements are stored behind those that are there. -/
theorem BlkK.storeAt {c : Nat} {vs : List Value} (h : BlkK B br e ks t m w g) (hS : S e = true) (he : sh e = ks) (hst : ∀ k ∈ ks, StabK B br S sh k) (hlen : vs.length = c * ks.length) (htc : t + c ≤ m)
    (hv : ∀ (i f : Nat) k u, i < c → ks[f]? = some k → vs[i * ks.length + f]? = some u → k w u) : RelK B br S sh w (setCells w g (t * ks.length) vs) ∧ BlkK B br e ks (t + c) m (setCells w g (t * ks.length) vs) g := by
  have hm := Nat.mul_le_mul_right ks.length htc
  rw [Nat.add_mul] at hm
  have key : ∀ (q f : Nat) k u, ks[f]? = some k → t * ks.length ≤ q * ks.length + f → vs[q * ks.length + f - t * ks.length]? = some u → k w u := fun q f k u hk hs hu => by
    have hf : f < ks.length := (List.getElem?_eq_some_iff.1 hk).1
    have hlt := (List.getElem?_eq_some_iff.1 hu).1
    have hqt : t ≤ q := by
      rcases Nat.lt_or_ge q t with c1 | c1
      · have := Nat.mul_le_mul_right ks.length c1
        rw [Nat.succ_mul] at this
        omega
      · exact c1
    obtain ⟨i, rfl⟩ : ∃ i, q = t + i := ⟨q - t, by omega⟩
    rw [Nat.add_mul, show t * ks.length + i * ks.length + f - t * ks.length = i * ks.length + f by omega] at hu hlt
    have hic : i < c := by
      rcases Nat.lt_or_ge i c with c1 | c1
      · exact c1
      · have := Nat.mul_le_mul_right ks.length c1
        omega
    exact hv i f k u hic hk hu
  have hr := RelK.storeAt (S := S) (sh := sh) h hS he (by omega) key
  refine ⟨hr, ?_⟩
  obtain ⟨h1, h2, cs, h3, h4, h5⟩ := h
  have hl : t * ks.length + vs.length ≤ cs.toList.length := by simp; omega
  have hat := setCells_at (T := e) (fr := (0, 0)) vs (cs := cs.toList) (t * ks.length) (by simpa using h3) hl
  refine ⟨h1, h2, _, hat, (by simp; simp at hl; omega), fun q f k u hq hk hu => ?_⟩
  have hf : f < ks.length := (List.getElem?_eq_some_iff.1 hk).1
  refine hst k (List.mem_of_getElem? hk) _ _ _ hr ?_
  simp only [List.getElem?_toArray, List.append_assoc] at hu
  by_cases a1 : q < t
  · have := Nat.mul_le_mul_right ks.length a1
    rw [Nat.succ_mul] at this
    rw [List.getElem?_append_left (by simp at hl ⊢; omega), List.getElem?_take_of_lt (by omega)] at hu
    exact h5 q f k u a1 hk (by simpa using hu)
  · have hge := Nat.mul_le_mul_right ks.length (show t ≤ q by omega)
    have hle := Nat.mul_le_mul_right ks.length (show q + 1 ≤ t + c by omega)
    rw [Nat.succ_mul, Nat.add_mul] at hle
    rw [List.getElem?_append_right (by simp; omega)] at hu
    have e1 : (cs.toList.take (t * ks.length)).length = t * ks.length := by simp at hl ⊢; omega
    rw [e1, List.getElem?_append_left (by omega)] at hu
    exact key q f k u hk (by omega) hu
end
end Go.Proofs.YtodjokdaofefdaaGreat
/- Kinds of values: append. -/
namespace Go.Proofs.YtodjokdaofefdaaGreat
set_option linter.unusedSimpArgs false
set_option linter.unusedVariables false
open Go.RowKit

/-- The cells of n elements, of their kinds. -/
def TypL (ks : List VK) (w : World) (n : Nat) (xs : List Value) : Prop := ∀ (q f : Nat) k u, q < n → ks[f]? = some k → xs[q * ks.length + f]? = some u → k w u
section
variable {B br : Nat} {S : TypeId → Bool} {sh : TypeId → List VK} {w w' : World} {v : Value} {g n m t : Nat} {e : TypeId} {ks : List VK} {xs ys : List Value}
theorem TypL.append (h : TypL ks w n xs) (hl : xs.length = n * ks.length) (h2 : TypL ks w m ys) : TypL ks w (n + m) (xs ++ ys) := by
  intro q f k u hq hk hu
  have hf : f < ks.length := (List.getElem?_eq_some_iff.1 hk).1
  by_cases hlt : q < n
  · have := Nat.mul_le_mul_right ks.length hlt
    rw [Nat.succ_mul] at this
    rw [List.getElem?_append_left (by omega)] at hu
    exact h q f k u hlt hk hu
  · obtain ⟨i, rfl⟩ : ∃ i, q = n + i := ⟨q - n, by omega⟩
    rw [List.getElem?_append_right (by rw [hl, Nat.add_mul]; omega), hl, Nat.add_mul, show n * ks.length + i * ks.length + f - n * ks.length = i * ks.length + f by omega] at hu
    exact h2 i f k u (by omega) hk hu
theorem TypL.one (hone : ∀ k ∈ ks, ∀ w u, k w u → u.oneCell' = true) (h : TypL ks w n xs) (hl : xs.length = n * ks.length) : ∀ u ∈ xs, u.oneCell' = true := by
  intro u hu
  obtain ⟨j, hj, rfl⟩ := List.getElem_of_mem hu
  rcases Nat.eq_zero_or_pos ks.length with h0 | h0
  · rw [h0, Nat.mul_zero] at hl; omega
  · have hm := Nat.mod_lt j h0
    have hk : ks[j % ks.length]? = some ks[j % ks.length] := List.getElem?_eq_getElem hm
    refine hone _ (List.getElem_mem hm) w _ (h (j / ks.length) (j % ks.length) _ _ ?_ hk ?_)
    · exact Nat.div_lt_of_lt_mul (by rw [Nat.mul_comm]; omega)
    · rw [Nat.div_add_mod' j ks.length]; exact List.getElem?_eq_getElem hj
theorem BlkK.list {o : Nat} (h : BlkK B br e ks t m w g) (hn : o + n ≤ t) (htm : t ≤ m) : ∃ xs : List Value, xs.length = n * ks.length ∧ TypL ks w n xs ∧ ∀ j u, xs[j]? = some u → w.cell? ⟨g, o * ks.length + j, Option.none⟩ = some u := by
  obtain ⟨h1, h2, cs, h3, h4, h5⟩ := h
  have hle := Nat.mul_le_mul_right ks.length (Nat.le_trans hn htm)
  rw [Nat.add_mul] at hle
  have hat : ∀ j, j < n * ks.length → ((cs.toList.drop (o * ks.length)).take (n * ks.length))[j]? = cs[o * ks.length + j]? := fun j hj => by
    rw [List.getElem?_take_of_lt hj, List.getElem?_drop]; simp
  refine ⟨(cs.toList.drop (o * ks.length)).take (n * ks.length), by simp; omega, fun q f k u hq hk hu => ?_, fun j u hu => ?_⟩
  · have hf : f < ks.length := (List.getElem?_eq_some_iff.1 hk).1
    have := Nat.mul_le_mul_right ks.length hq
    rw [Nat.succ_mul] at this
    rw [hat _ (by omega), show o * ks.length + (q * ks.length + f) = (o + q) * ks.length + f by rw [Nat.add_mul]; omega] at hu
    exact h5 (o + q) f k u (by omega) hk hu
  · have hj : j < n * ks.length := by
      have := (List.getElem?_eq_some_iff.1 hu).1
      simp at this; omega
    rw [hat j hj] at hu
    rw [cell_of_row w g _ cs e (0, 0) h3]; exact hu
/-- A row of one's own, of kinds. -/
theorem SlK.of_own {B0 sz M : Nat} (ho : w'.ownsRow B0 e sz v n xs) (hks : ks.length = sz) (hB : B ≤ B0) (hbr : br < B0) (hn : n ≤ M) (ht : TypL ks w' n xs) : SlK B br e ks M w' v := by
  subst hks
  rcases ho.2 with ⟨h1, _⟩ | ⟨g, cap, cur, h1, h2, h3, h4, h5, h6, h7⟩
  · exact .inl h1
  · refine .inr ⟨g, 0, n, cap, by rw [Nat.zero_mul]; exact h1, hn, h4, by simpa [maxLen] using h5, by omega, by omega, cur, h3, by rw [Nat.zero_add]; omega, fun q f k u hq hk hu => ?_⟩
    have hf : f < ks.length := (List.getElem?_eq_some_iff.1 hk).1
    have := Nat.mul_le_mul_right ks.length (show q + 1 ≤ n by omega)
    rw [Nat.succ_mul] at this
    refine ht q f k u (by omega) hk ?_
    rw [← h7, List.getElem?_take_of_lt (by omega)]
    simpa using hu
theorem TypL.rel (h : TypL ks w n xs) (hst : ∀ k ∈ ks, StabK B br S sh k) (hr : RelK B br S sh w w') : TypL ks w' n xs := fun q f k u hq hk hu => hst k (List.mem_of_getElem? hk) _ _ _ hr (h q f k u hq hk hu)
theorem SlK.mono {M M' : Nat} (h : SlK B br e ks M w v) (hM : M ≤ M') : SlK B br e ks M' w v := by
  rcases h with h | ⟨g, o, n, c, h1, h2, h3⟩
  · exact .inl h
  · exact .inr ⟨g, o, n, c, h1, by omega, h3⟩
/-- append. -/
theorem op_append_K {P : Program} {o : Oper} {a : Act} {K : Act → World → Prop} {Q : Exit → Act → World → Prop} (s x : Operand) (T : TypeId) (z : Value) (sz bytes : Nat)
    (ho : o.op = .call { callee := .builtin .append, args := #[s, x], argTypes := #[T, T] }) (ht : P.underlying T = some (.slice e)) (hinfo : (P.info? e).map (fun i => (i.zero, i.size, i.bytes)) = some (some z, sz, bytes))
    (hzs : z.cells.size = sz) (hsz : 0 < sz) (hks : ks.length = sz) (hone : ∀ k ∈ ks, ∀ w u, k w u → u.oneCell' = true) (hS : S e = true) (he : sh e = ks) (hst : ∀ k ∈ ks, StabK B br S sh k)
    {M N : Nat} (hs : SlK B br e ks M w (a.eval s)) (hx : SlK B br e ks N w (a.eval x)) (hB : B ≤ w.heap.size) (hbr : br < w.heap.size) (hbytes : (M + N) * bytes ≤ 140737488355328) (hMN : M + N ≤ 1000000)
    (h : ∀ v' w', SlK B br e ks (M + N) w' v' → RelK B br S sh w w' → (∃ row, w.grownBy w' row ∧ ∀ k, row = some k → B ≤ k ∧ k ≠ br) → (∀ A1 n1 c1 A2 n2 c2, a.eval s = .slice A1 n1 c1 → a.eval x = .slice A2 n2 c2 → ∃ A c, v' = .slice A (n1 + n2) c) → K (a.put o.dst v') w') : o.wp P a w K Q := by
  obtain ⟨i, hi, hz, hsize, hby⟩ := info_parts hinfo
  have same : ∀ Ax cx, a.eval x = .slice Ax 0 cx → o.wp P a w K Q := fun Ax cx hxv => by
    have h1 : (Builtin.append_ #[T, T] o.type #[a.eval s, .slice Ax 0 cx]).run P w = .ok (a.eval s) w := by
      rcases hs with h1 | ⟨g, q, n, c, h1, _, h2, _⟩
      · rw [h1]; cases Ax <;> simp [Builtin.append_, run_underlying ht, sizeOf, typeInfo, hi, Builtin.lenOf, Builtin.firstCells, loadCells, loadCellsFrom]
      · rw [h1]; cases Ax <;> simp [Builtin.append_, run_underlying ht, sizeOf, typeInfo, hi, Builtin.lenOf, Builtin.firstCells, h2, storeCells, loadCells, loadCellsFrom]
    unfold Oper.wp execOp
    simp only [ho, resolve, invoke, builtin, Sem.run_bind, Sem.run_pure, Result.andThen_ok, List.map_toArray, List.map_cons, List.map_nil, hxv, h1]
    exact h _ _ (hs.mono (by omega)) (RelK.refl w) ⟨Option.none, World.grownBy.refl w _, fun k e => by cases e⟩ (fun A1 n1 c1 A2 n2 c2 e1 e2 => by rw [hxv] at e2; cases e2; exact ⟨A1, c1, e1⟩)
  rcases hx with hxv | ⟨gx, ox, nx, cx, hxv, hxn, hxc, _, hxb⟩
  · exact same _ _ hxv
  · rcases Nat.eq_zero_or_pos nx with h0 | hpos
    · subst h0; exact same _ _ hxv
    obtain ⟨news, hl2, ht2, hc2⟩ := hxb.list (o := ox) (n := nx) (Nat.le_refl _) (by omega)
    have hone2 := ht2.one hone hl2
    have hcx : ∀ j u, news[j]? = some u → w.cell? ((⟨gx, ox * ks.length, Option.none⟩ : Addr).add j) = some u := fun j u hu => by rw [Addr.add_lit]; exact hc2 j u hu
    have hby2 : ∀ n, n ≤ M → (n + nx) * bytes ≤ 140737488355328 := fun n hn => Nat.le_trans (Nat.mul_le_mul_right _ (by omega)) hbytes
    rcases hs with hsv | ⟨g, q, n, c, hsv, hn, hnc, hcm, hb⟩
    · obtain ⟨v', w', h1, h2, h3, _⟩ := run_append_own (P := P) w w.heap.size T o.type e i z sz bytes ht hi hz hsize hby hzs hsz (.slice Option.none 0 0) 0 [] (World.ownsRow_nil w _ e sz) ⟨gx, ox * ks.length, Option.none⟩ nx cx news (by rw [hl2, hks]) hcx hone2 (by simp only [maxLen]; omega) (hby2 0 (by omega)) (Nat.le_refl _)
      have hr : RelK B br S sh w w' := RelK.grown (row := Option.none) h3 (fun k e => by cases e)
      unfold Oper.wp execOp
      simp only [ho, resolve, invoke, builtin, Sem.run_bind, Sem.run_pure, Result.andThen_ok, List.map_toArray, List.map_cons, List.map_nil, hsv, hxv, h1]
      exact h _ _ (SlK.of_own (n := 0 + nx) h2 hks hB hbr (by omega) (by simpa using ht2.rel hst hr)) hr ⟨Option.none, h3, fun k e => by cases e⟩ (fun A1 n1 c1 A2 n2 c2 e1 e2 => by rw [hsv] at e1; rw [hxv] at e2; cases e1; cases e2; obtain ⟨g, cap, hv, _⟩ := h2.form (by omega); exact ⟨_, _, hv⟩)
    · by_cases hroom : n + nx ≤ c
      · obtain ⟨hr, hb2⟩ := (hb.le (t' := q + n) (m' := q + c) (Nat.le_refl _) (Nat.le_refl _)).storeAt (S := S) (sh := sh) (c := nx) (vs := news) hS he hst hl2 (by omega) (fun i f k u hi hk hu => ht2 i f k u hi hk hu)
        have hcell : ∀ j, j < news.length → (w.cell? ⟨g, q * ks.length + n * sz + j, Option.none⟩).isSome = true := fun j hj => by
          obtain ⟨_, _, cs, h3, h4, _⟩ := hb
          rw [cell_of_row w g _ cs e (0, 0) h3, Array.getElem?_eq_getElem (by
            have := Nat.mul_le_mul_right ks.length (show q + (n + nx) ≤ q + c by omega)
            rw [Nat.add_mul, Nat.add_mul] at this
            rw [hks] at this h4 ⊢
            rw [hl2, hks] at hj
            omega)]
          rfl
        subst hsize
        have hrun := run_append_room_cells (P := P) w T o.type e i ht hi g (q * ks.length) n c ⟨gx, ox * ks.length, Option.none⟩ nx cx news (by rw [hl2, hks]) hcx hone2 hroom (fun j hj => hcell j hj) (fun j hj => hb.free _)
        rw [← setCells_eq] at hrun
        have e1 : q * ks.length + n * i.size = (q + n) * ks.length := by rw [Nat.add_mul, hks]
        rw [e1] at hrun
        unfold Oper.wp execOp
        simp only [ho, resolve, invoke, builtin, Sem.run_bind, Sem.run_pure, Result.andThen_ok, List.map_toArray, List.map_cons, List.map_nil, hsv, hxv, hrun]
        refine h _ _ (.inr ⟨g, q, n + nx, c, rfl, by omega, hroom, hcm, by rw [← Nat.add_assoc]; exact hb2⟩) hr ⟨some g, setCells_grown g news w _, fun k e => by cases e; exact ⟨hb.1, hb.2.1⟩⟩ (fun A1 n1 c1 A2 n2 c2 e1 e2 => by rw [hsv] at e1; rw [hxv] at e2; cases e1; cases e2; exact ⟨_, _, rfl⟩)
      · obtain ⟨olds, hl1, ht1, hc1⟩ := hb.list (o := q) (n := n) (Nat.le_refl _) (by omega)
        obtain ⟨v', w', h1, h2, h3⟩ := run_append_arg_grows (P := P) w T o.type e i z sz bytes ht hi hz hsize hby hzs hsz ⟨g, q * ks.length, Option.none⟩ n c olds (by rw [hl1, hks]) (fun j u hj => by rw [Addr.add_lit]; exact hc1 j u hj) ⟨gx, ox * ks.length, Option.none⟩ nx cx news (by rw [hl2, hks]) hcx (by omega) (by simp only [maxLen]; omega) (hby2 n hn)
        have hr : RelK B br S sh w w' := RelK.grown (row := Option.none) h3 (fun k e => by cases e)
        unfold Oper.wp execOp
        simp only [ho, resolve, invoke, builtin, Sem.run_bind, Sem.run_pure, Result.andThen_ok, List.map_toArray, List.map_cons, List.map_nil, hsv, hxv, h1]
        exact h _ _ (SlK.of_own h2 hks hB hbr (by omega) ((ht1.append hl1 ht2).rel hst hr)) hr ⟨Option.none, h3, fun k e => by cases e⟩ (fun A1 n1 c1 A2 n2 c2 e1 e2 => by rw [hsv] at e1; rw [hxv] at e2; cases e1; cases e2; obtain ⟨g, cap, hv, _⟩ := h2.form (by omega); exact ⟨_, _, hv⟩)
end
end Go.Proofs.YtodjokdaofefdaaGreat
/- A region in its own order, by the same obligations as one that draws its order. -/
namespace Go.Proofs.YtodjokdaofefdaaGreat
set_option linter.unusedSimpArgs false
set_option linter.unusedVariables false
open Go.RowKit

end Go.Proofs.YtodjokdaofefdaaGreat
