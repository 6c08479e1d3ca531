/- Marks on the parts of expressions, and what is held of them. -/
import Derived.Test.YtodjokdaofefdaaQ3
import Derived.Test.YtodjokdaofefdaaQ1
import Derived.Test.YtodjokdaofefdaaQ2
namespace Go.Proofs.Ytodjokdaofefdaa
set_option linter.unusedSimpArgs false
set_option linter.unusedVariables false
open Go.RowKit

/-- Only blocks from lo to hi turn, and new ones come. -/
structure Span (lo hi : Nat) (w w' : World) : Prop where
  os : w'.os = w.os
  tape : w'.tape = w.tape
  output : w'.output = w.output
  size : w.heap.size ≤ w'.heap.size
  out : ∀ k, k < w.heap.size → (k < lo ∨ hi ≤ k) → w'.heap[k]? = w.heap[k]?
theorem Span.refl (lo hi : Nat) (w : World) : Span lo hi w w := ⟨rfl, rfl, rfl, Nat.le_refl _, fun _ _ _ => rfl⟩
theorem Span.trans {lo hi : Nat} {a b c : World} (h : Span lo hi a b) (h2 : Span lo hi b c) : Span lo hi a c :=
  ⟨h2.os.trans h.os, h2.tape.trans h.tape, h2.output.trans h.output, Nat.le_trans h.size h2.size, fun k hk hr => (h2.out k (Nat.lt_of_lt_of_le hk h.size) hr).trans (h.out k hk hr)⟩
theorem Span.wide {lo hi lo' hi' : Nat} {w w' : World} (h : Span lo hi w w') (h1 : lo' ≤ lo) (h2 : hi ≤ hi') : Span lo' hi' w w' := ⟨h.os, h.tape, h.output, h.size, fun k hk ho => h.out k hk (by omega)⟩
theorem Span.of {lo hi : Nat} {w w' : World} {row : Option Nat} (hg : w.grownBy w' row) (hr : ∀ k, row = some k → lo ≤ k ∧ k < hi) : Span lo hi w w' :=
  ⟨hg.os, hg.tape, hg.output, hg.size, fun k hk ho => hg.block k hk (fun e => by have := hr k e.symm; omega)⟩
theorem Span.ofBelow {lo hi : Nat} {w w' : World} (hb : Below w.heap.size w w') : Span lo hi w w' := ⟨hb.os, hb.tape, hb.output, hb.size, fun k hk _ => hb.block k hk⟩
theorem Span.below {lo hi B : Nat} {a w w' : World} (h : Below B a w) (hs : Span lo hi w w') (hB : B ≤ w.heap.size) (hl : B ≤ lo) : Below B a w' :=
  h.trans ⟨hs.os, hs.tape, hs.output, hs.size, fun k hk => hs.out k (by omega) (.inl (by omega))⟩
theorem own_span {B sz n lo hi : Nat} {e : TypeId} {w w' : World} {v : Value} {xs : List Value} (h : w.ownsRow B e sz v n xs) (hs : Span lo hi w w') (hne : ∀ k, v.ownBlock = some k → k < lo ∨ hi ≤ k) : w'.ownsRow B e sz v n xs := by
  rcases h with ⟨h1, h2 | ⟨g, cap, cur, hv, hg, hc, hrest⟩⟩
  · exact ⟨h1, .inl h2⟩
  · have := hs.out g (Array.getElem?_eq_some_iff.1 hc).1 (hne g (by rw [hv]; rfl))
    exact ⟨h1, .inr ⟨g, cap, cur, hv, hg, this.trans hc, hrest⟩⟩
/-- The number of the mark from which on element j is marked. -/
def kAt (d : Nat) (k : Int) (l : ExL) (j : Nat) : Int := k + 3 * (cntS d (l.take j) : Nat)
def mkE : Nat → Int → Ex → Ex
  | 0, _, t => t
  | d + 1, k, t => .nd k (k + 1) (mkT (k + 1 + 1)) ((List.range t.ps.length).map fun j => mkE d (kAt d (k + 1 + 1 + 1) t.ps j) (exAt t.ps j))
def mkL (d : Nat) (k : Int) (l : ExL) : ExL := (List.range l.length).map fun j => mkE d (kAt d k l j) (exAt l j)
theorem mkE_succ (d : Nat) (k : Int) (t : Ex) : mkE (d + 1) k t = .nd k (k + 1) (mkT (k + 1 + 1)) (mkL d (k + 1 + 1 + 1) t.ps) := rfl
theorem mkL_len (d : Nat) (k : Int) (l : ExL) : (mkL d k l).length = l.length := by simp [mkL]
theorem mkL_at {d : Nat} {k : Int} {l : ExL} {j : Nat} (h : j < l.length) : exAt (mkL d k l) j = mkE d (kAt d k l j) (exAt l j) := by
  rw [exAt, mkL, List.getD_eq_getElem?_getD, List.getElem?_map, List.getElem?_range h]; rfl
theorem kAt_zero (d : Nat) (k : Int) (l : ExL) : kAt d k l 0 = k := by simp [kAt, cntS]
theorem kAt_all (d : Nat) (k : Int) (l : ExL) : kAt d k l l.length = k + 3 * (cntS d l : Nat) := by rw [kAt, List.take_length]
theorem kAt_succ {d : Nat} {k : Int} {l : ExL} {j : Nat} (h : j < l.length) : kAt d k l (j + 1) = kAt d k l j + 3 * ((1 + cntR d (exAt l j) : Nat) : Int) := by
  have h1 := cnt_take (d := d) h
  simp only [kAt, cntS, List.length_take, h1]
  omega
theorem kAt_le {d : Nat} (k : Int) {l : ExL} {j : Nat} (h : j ≤ l.length) : k ≤ kAt d k l j ∧ kAt d k l j ≤ k + 3 * (cntS d l : Nat) := by
  have h2 : cntS d (l.take j) ≤ cntS d l := by
    have : ((l.take j).map (cntR d)).sum ≤ (l.map (cntR d)).sum := by
      conv => rhs; rw [← List.take_append_drop j l, List.map_append, List.sum_append]
      omega
    simp only [cntS, List.length_take]
    omega
  unfold kAt
  omega
def xAt (l : List ExX) (i : Nat) : ExX := l.getD i (exD, 0, 0)
theorem xAt_eq {l : List ExX} {i : Nat} (h : i < l.length) : xAt l i = l[i] := by simp [xAt, h]
def mkX (d : Nat) (k0 : Int) (l : ExL) (l' : List ExX) : List ExX := (List.range l'.length).map fun i => (mkE d (kAt d k0 l i) (exAt l i), (xAt l' i).2)
theorem mkX_len (d : Nat) (k0 : Int) (l : ExL) (l' : List ExX) : (mkX d k0 l l').length = l'.length := by simp [mkX]
theorem mkX_snd (d : Nat) (k0 : Int) (l : ExL) (l' : List ExX) : (mkX d k0 l l').map Prod.snd = l'.map Prod.snd := by
  apply List.ext_getElem
  · simp [mkX]
  · intro i h1 h2
    simp only [List.length_map] at h2
    simp [mkX, xAt_eq h2]
theorem mkX_fst (d : Nat) (k0 : Int) {l : ExL} {l' : List ExX} (h : l'.length = l.length) : (mkX d k0 l l').map Prod.fst = mkL d k0 l := by
  rw [mkX, mkL, List.map_map, h]; rfl
theorem asc_snd {lo hi : Nat} {l l2 : List ExX} (h : l.map Prod.snd = l2.map Prod.snd) (ha : AscX lo hi l) : AscX lo hi l2 := by
  refine ⟨fun a ha2 => ?_, ?_⟩
  · have h1 : a.2 ∈ l.map Prod.snd := by rw [h]; exact List.mem_map_of_mem ha2
    obtain ⟨b, hb, e⟩ := List.mem_map.1 h1
    rw [← e]; exact ha.1 b hb
  · have h1 : (l.map Prod.snd).Pairwise fun a b => a.2 ≤ b.1 := List.pairwise_map.2 ha.2
    rw [h] at h1
    exact List.pairwise_map.1 h1
theorem av_snd {v : Value} {l l2 : List ExX} (h : l.map Prod.snd = l2.map Prod.snd) (ha : AvX v l) : AvX v l2 := fun a ha2 => by
  have h1 : a.2 ∈ l.map Prod.snd := by rw [h]; exact List.mem_map_of_mem ha2
  obtain ⟨b, hb, e⟩ := List.mem_map.1 h1
  rw [← e]; exact ha b hb
theorem AscX.ne {lo hi : Nat} {p q : List ExX} {a : ExX} (h : AscX lo hi (p ++ a :: q)) : (∀ b ∈ p, b.2.2 ≤ a.2.1) ∧ ∀ b ∈ q, a.2.2 ≤ b.2.1 := by
  have h1 := List.pairwise_append.1 h.2
  exact ⟨fun b hb => h1.2.2 b hb a (by simp), fun b hb => (List.pairwise_cons.1 h1.2.1).1 b hb⟩
theorem row4 {α : Type} (xp xq : List α) {o : Nat} (ho : xp.length = o) (c0 c1 c2 c3 n0 n1 n2 : α) :
    (xp ++ [c0, c1, c2, c3] ++ xq).take o ++ [n0, n1, n2] ++ (xp ++ [c0, c1, c2, c3] ++ xq).drop (o + 3) = xp ++ [n0, n1, n2, c3] ++ xq := by
  subst ho
  simp [List.take_append, List.drop_append]
theorem row4b {α : Type} (xp xq : List α) {o : Nat} (ho : xp.length = o) (c0 c1 c2 c3 n0 n1 n2 : α) :
    ((xp ++ [c0, c1, c2, c3] ++ xq).take o ++ [n0, n1] ++ (xp ++ [c0, c1, c2, c3] ++ xq).drop (o + 2)).take (o + 2) ++ [n2] ++ ((xp ++ [c0, c1, c2, c3] ++ xq).take o ++ [n0, n1] ++ (xp ++ [c0, c1, c2, c3] ++ xq).drop (o + 2)).drop (o + 2 + [n2].length) = xp ++ [n0, n1, n2, c3] ++ xq := by
  subst ho
  have e : (xp ++ [c0, c1, c2, c3] ++ xq).take xp.length ++ [n0, n1] ++ (xp ++ [c0, c1, c2, c3] ++ xq).drop (xp.length + 2) = xp ++ [n0, n1, c2, c3] ++ xq := by
    simp [List.take_append, List.drop_append, List.drop_eq_nil_of_le (show xp.length ≤ xp.length + 2 by omega), show xp.length + 2 - xp.length = 2 by omega]
  rw [e]
  simp [List.take_append, List.drop_append, List.drop_eq_nil_of_le (show xp.length ≤ xp.length + 2 + 1 by omega), List.take_of_length_le (show xp.length ≤ xp.length + 2 by omega), show xp.length + 2 - xp.length = 2 by omega, show xp.length + 2 + 1 - xp.length = 3 by omega]
theorem at4 {α : Type} (xp xq : List α) {o : Nat} (ho : xp.length = o) (c0 c1 c2 c3 : α) : (xp ++ [c0, c1, c2, c3] ++ xq)[o + 3]? = some c3 := by
  subst ho
  simp
theorem exT.span {d lo hi a b : Nat} {w w' : World} {v : Value} {l : ExL} (h : exT d lo hi w v l) (hs : Span a b w w') (hh : hi ≤ w.heap.size) (hd : hi ≤ a ∨ b ≤ lo) : exT d lo hi w' v l :=
  h.keep (fun k h1 h2 => hs.out k (by omega) (by omega))
theorem ExN.span {d a b : Nat} {w w' : World} {x : ExX} {cs : List Value} (h : ExN d w x cs) (hs : Span a b w w') (hh : x.2.2 ≤ w.heap.size) (hd : x.2.2 ≤ a ∨ b ≤ x.2.1) : ExN d w' x cs :=
  h.keep (fun k h1 h2 => hs.out k (by omega) (by omega))
theorem exW.span {d a b : Nat} {w w' : World} {A : Option Addr} {l : ExL} {lo hi : Nat} (h : exS d lo hi w A l) (hs : Span a b w w') (hh : hi ≤ w.heap.size) (hd : hi ≤ a ∨ b ≤ lo) : exS d lo hi w' A l :=
  h.keep (fun k h1 h2 => hs.out k (by omega) (by omega)) (Nat.le_refl _) (Nat.le_refl _)
theorem mkT_size (k : Int) (h : k ≤ 4611686018427387904) : (mkT k).size ≤ 9223372036854775807 := by
  have hg : ∀ (f : Nat) (m : Int) (out : ByteArray), (mkGo f m out).size ≤ out.size + f := by
    intro f
    induction f with
    | zero => intro m out; simp [mkGo]
    | succ f ih =>
      intro m out
      rw [mkGo]
      split
      · omega
      · have := ih (m / 10) (⟨#[UInt8.ofNat (48 + m % 10).toNat]⟩ ++ out)
        rw [ByteArray.size_append] at this
        have e : (⟨#[UInt8.ofNat (48 + m % 10).toNat]⟩ : ByteArray).size = 1 := rfl
        omega
  unfold mkT
  split
  · decide
  · have := hg k.toNat k ⟨#[]⟩
    rw [ByteArray.size_append]
    have e1 : (⟨#[109]⟩ : ByteArray).size = 1 := rfl
    have e2 : (⟨#[]⟩ : ByteArray).size = 0 := rfl
    omega
def MkQ (d : Nat) : Prop := ∀ (lo hi : Nat) (A : Option Addr) (l : ExL) (c : Nat) (k0 : Int) (w : World), exT d lo hi w (.slice A l.length c) l → hi ≤ w.heap.size → 0 ≤ k0 → k0 + 3 * (cntS d l : Nat) ≤ 100000000000000 →
  Calls Try.prog 85 #[.slice A l.length c, .int .i64 k0] w fun e w' => e = .returned (.int .i64 (k0 + 3 * (cntS d l : Nat))) ∧ exT d lo hi w' (.slice A l.length c) (mkL d k0 l) ∧ Span lo hi w w'
theorem mkQ_zero : MkQ 0 := by
  intro lo hi A l c k0 w h hh h0 h1
  obtain ⟨hl, A2, c2, e⟩ := h
  subst hl
  go_enter Try.func85, Try.ntmps85
  go_wp2
  go_loopw [1, 5] (fun kk i wr => i = .int .i64 0 ∧ kk = .int .i64 k0 ∧ Span lo hi w wr) (fun _ i _ => 0)
  case atStart => exact ⟨rfl, rfl, Span.refl _ _ _⟩
  case round =>
    obtain ⟨rfl, rfl, hG⟩ := hrel
    go_wp2
    go_ret
    exact ⟨by simp [cntS], ⟨rfl, A, c, rfl⟩, hG⟩
set_option maxRecDepth 100000 in
set_option maxHeartbeats 8000000 in
theorem mkQ_succ {m : Nat} (hQ : MkQ m) : MkQ (m + 1) := by
  intro lo hi A l c k0 w h hh hk0 hk1
  obtain ⟨l', hl', hasc, hav, hvb, hO⟩ := h
  have hge := hO.ge
  obtain ⟨A1, c1, xs0, e, ho, hc⟩ := hO
  have hn' : l'.length = l.length := by rw [← hl', List.length_map]
  rw [hn'] at ho e
  simp only [Value.slice.injEq, true_and] at e
  obtain ⟨rfl, rfl⟩ := e
  have HL' := Lib.hid hl'
  have HASC := Lib.hid hasc
  have HAV := Lib.hid hav
  have HVB := Lib.hid hvb
  have HGE := Lib.hid hge
  have HN' := Lib.hid hn'
  have HQ := Lib.hid hQ
  have hln : l.length ≤ 100000000000000 := by unfold cntS at hk1; omega
  clear hl' hasc hav hvb hge hn' hQ
  go_enter Try.func85, Try.ntmps85
  go_wp2
  go_loopw [1, 5] (fun kk i wr => ∃ j : Nat, j ≤ l.length ∧ i = .int .i64 j ∧ kk = .int .i64 (kAt (m + 1) k0 l j) ∧ Span lo hi w wr ∧ ∃ xs, wr.ownsRow lo 28 4 (.slice A l.length c) l.length xs ∧ Chunks (ExN m wr) 4 ((mkX (m + 1) k0 l l').take j ++ l'.drop j) xs) (fun _ i _ => l.length - (intOf i).toNat)
  case atStart => exact ⟨0, Nat.zero_le _, rfl, by rw [kAt_zero], Span.refl _ _ _, _, ho, hc⟩
  case round =>
    clear ho hc
    obtain ⟨j, hj, rfl, rfl, hG, xs, hown, hch⟩ := hrel
    have HCH := Lib.hid hch
    clear hch
    have hkb := kAt_le (d := m + 1) k0 hj
    obtain ⟨k, hk⟩ : ∃ k, k = kAt (m + 1) k0 l j := ⟨_, rfl⟩
    have HK := Lib.hid hk
    rw [← hk] at hkb ⊢
    clear hk
    have hws := hG.size
    by_cases hlt : j < l.length
    · obtain ⟨g, cap, hv, hBg, hglt⟩ := hown.form (by omega)
      simp only [Value.slice.injEq, true_and] at hv
      obtain ⟨rfl, rfl⟩ := hv
      have hjl : j < l'.length := by rw [HN'.out]; exact hlt
      have hd : l'.drop j = l'[j] :: l'.drop (j + 1) := List.drop_eq_getElem_cons hjl
      have hx1 : l'[j].1 = exAt l j := by
        have e1 : l[j] = l'[j].1 := by simp only [← HL'.out, List.getElem_map]
        rw [exAt_eq hlt, e1]
      have hx2 : l'[j].2 = (xAt l' j).2 := by rw [xAt_eq hjl]
      have hch := HCH.out
      rw [hd] at hch
      obtain ⟨xp, cc, xq, hxs, hxp, hcl, hcp, ⟨v', hcc, hT, hsz⟩, hcq⟩ := hch.cut
      rw [hx1] at hcc hT
      rw [hx2] at hT
      have hxp' : xp.length = j * 4 := by rw [hxp, List.length_take, mkX_len, Nat.min_eq_left (by omega)]
      have hmixs : ((mkX (m + 1) k0 l l').take j ++ l'[j] :: l'.drop (j + 1)).map Prod.snd = l'.map Prod.snd := by
        rw [← hd, List.map_append, List.map_take, mkX_snd, List.map_drop, List.take_append_drop]
      have hmix : AscX lo hi ((mkX (m + 1) k0 l l').take j ++ l'[j] :: l'.drop (j + 1)) := asc_snd hmixs.symm HASC.out
      have hmav : AvX (.slice (some ⟨g, 0, none⟩) l.length c) ((mkX (m + 1) k0 l l').take j ++ l'[j] :: l'.drop (j + 1)) := av_snd hmixs.symm HAV.out
      have hne := hmix.ne
      have hin := hmix.1 l'[j] (List.mem_append_right _ (List.mem_cons_self ..))
      have hgav := hmav l'[j] (List.mem_append_right _ (List.mem_cons_self ..)) g rfl
      rw [hx2] at hne hin hgav
      have hgi : g < hi := HVB.out g rfl
      obtain ⟨a, ha⟩ : ∃ a, a = (xAt l' j).2.1 := ⟨_, rfl⟩
      obtain ⟨b, hb⟩ : ∃ b, b = (xAt l' j).2.2 := ⟨_, rfl⟩
      rw [← ha, ← hb] at hne hin hgav hT
      obtain ⟨A', c', rfl⟩ := hT.slice
      have hcnt : (cntS m (exAt l j).ps : Nat) + 1 ≤ cntS (m + 1) l := by
        have h1 := kAt_le (d := m + 1) k0 (show j + 1 ≤ l.length by omega)
        have h2 := kAt_le (d := m + 1) k0 hj
        rw [kAt_succ hlt] at h1
        have e : cntR (m + 1) (exAt l j) = cntS m (exAt l j).ps := rfl
        rw [e] at h1
        omega
      have hkn : k + 3 * ((1 + cntS m (exAt l j).ps : Nat) : Int) ≤ k0 + 3 * (cntS (m + 1) l : Nat) := by
        have h1 := kAt_le (d := m + 1) k0 (show j + 1 ≤ l.length by omega)
        rw [kAt_succ hlt, ← HK.out] at h1
        exact h1.2
      obtain ⟨z, hz⟩ : ∃ z, z = cntS m (exAt l j).ps := ⟨_, rfl⟩
      have HZ := Lib.hid hz
      rw [← hz] at hcnt hkn
      have HIN := Lib.hid hin
      have HNE := Lib.hid hne
      have HGAV := Lib.hid hgav
      have HMIX := Lib.hid hmix
      have HMAV := Lib.hid hmav
      have HXP := Lib.hid hxp'
      have HHA := Lib.hid ha
      have HHB := Lib.hid hb
      have HX := Lib.hid hxs
      have HCC := Lib.hid hcc
      have HT := Lib.hid hT
      have HCP := Lib.hid hcp
      have HCQ := Lib.hid hcq
      have HOW := Lib.hid hown
      have hgi2 := hgi
      obtain ⟨v0, f0⟩ := own_cell hown (j := j * 4) (by omega)
      obtain ⟨v1, f1⟩ := own_cell hown (j := j * 4 + 1) (by omega)
      have z0 := hown.frozenAt (j * 4)
      have z1 := hown.frozenAt (j * 4 + 1)
      clear hz ha hb hne hin hgav hT hcp hcq hcc hxs hxp hxp' hmix hmav hmixs hx1 hx2 hd hch hcl hown
      go_wp2_with fail
      refine (markText_any _ (by omega)).mono ?_
      rintro e w1 ⟨rfl, hb1⟩
      obtain ⟨w2, hw2⟩ : ∃ w2, w2 = (wr.setCell ⟨g, j * 4, none⟩ (.int .i64 k)).setCell ⟨g, j * 4 + 1, none⟩ (.int .i64 (k + 1)) := ⟨_, rfl⟩
      rw [← hw2] at hb1
      have HW2 := Lib.hid hw2
      have hg2 : wr.grownBy w2 (some g) := by rw [hw2]; exact setCells_grown g [.int .i64 k, .int .i64 (k + 1)] wr (j * 4)
      have hs2 : w2.ownsRow lo 28 4 (.slice (some ⟨g, 0, none⟩) l.length c) l.length (xs.take (j * 4) ++ [.int .i64 k, .int .i64 (k + 1)] ++ xs.drop (j * 4 + 2)) := by rw [hw2]; exact own_stores [.int .i64 k, .int .i64 (k + 1)] (j * 4) HOW.out (by simp; omega)
      have hs3 := own_below hs2 hb1
      obtain ⟨v2, f2⟩ := own_cell hs3 (j := j * 4 + 2) (by omega)
      have z2 := hs3.frozenAt (j * 4 + 2)
      have hs4 := own_stores [.string (mkT (k + 1 + 1))] (j * 4 + 2) hs3 (by simp; omega)
      have hg4 := setCells_grown g [.string (mkT (k + 1 + 1))] w1 (j * 4 + 2)
      obtain ⟨w4, hw4⟩ : ∃ w4, w4 = w1.setCell ⟨g, j * 4 + 2, none⟩ (.string (mkT (k + 1 + 1))) := ⟨_, rfl⟩
      have hs5 : w4.ownsRow lo 28 4 (.slice (some ⟨g, 0, none⟩) l.length c) l.length (xp ++ [.int .i64 k, .int .i64 (k + 1), .string (mkT (k + 1 + 1)), .slice A' (exAt l j).ps.length c'] ++ xq) := by
        rw [hw4]
        have e := hs4
        have ex := row4b xp xq HXP.out (Value.int .i64 (exAt l j).k) (.int .i64 (exAt l j).n) (.string (exAt l j).s) (.slice A' (exAt l j).ps.length c') (.int .i64 k) (.int .i64 (k + 1)) (.string (mkT (k + 1 + 1)))
        rw [HX.out, HCC.out, exHead] at e
        rw [ex] at e
        exact e
      have f3 : w4.cell? ⟨g, j * 4 + 3, none⟩ = some (.slice A' (exAt l j).ps.length c') := by
        rw [hs5.cellAt _ (by omega)]
        exact at4 xp xq HXP.out _ _ _ _
      have hsp : Span lo hi wr w4 := ((Span.of hg2 (fun q e => by cases e; exact ⟨hBg, hgi2⟩)).trans (Span.ofBelow hb1)).trans (Span.of (by rw [hw4]; exact hg4) (fun q e => by cases e; exact ⟨hBg, hgi2⟩))
      have hkp : ∀ q, q < wr.heap.size → q ≠ g → w4.heap[q]? = wr.heap[q]? := fun q hq hqg => by
        rw [hw4]
        exact ((hg4.block q (by have := hg2.size; have := hb1.size; omega) (fun e => hqg (by cases e; rfl))).trans (hb1.block q (by have := hg2.size; omega))).trans (hg2.block q hq (fun e => hqg (by cases e; rfl)))
      have HKP := Lib.hid hkp
      have HS5 := Lib.hid hs5
      have HSP := Lib.hid hsp
      have hin2 := HIN.out
      have hw4s := hsp.size
      have HT4 : Hid (exT m a b w4 (.slice A' (exAt l j).ps.length c') (exAt l j).ps) := Lib.hid (HT.out.keep (fun q q1 q2 => hkp q (by omega) (by have := HGAV.out; omega)))
      have HCP4 : Hid (Chunks (ExN m w4) 4 ((mkX (m + 1) k0 l l').take j) xp) := Lib.hid (HCP.out.mono_mem (fun x hx cs q => q.keep (fun q q1 q2 => hkp q (by have := HMIX.out.1 x (List.mem_append_left _ hx); omega) (by have := HMAV.out x (List.mem_append_left _ hx) g rfl; omega))))
      have HCQ4 : Hid (Chunks (ExN m w4) 4 (l'.drop (j + 1)) xq) := Lib.hid (HCQ.out.mono_mem (fun x hx cs q => q.keep (fun q q1 q2 => hkp q (by have := HMIX.out.1 x (List.mem_append_right _ (List.mem_cons_of_mem _ hx)); omega) (by have := HMAV.out x (List.mem_append_right _ (List.mem_cons_of_mem _ hx)) g rfl; omega))))
      have HW4 : Hid (w1.setCell ⟨g, j * 4 + 2, none⟩ (.string (mkT (k + 1 + 1))) = w4) := Lib.hid hw4.symm
      have g3 : (w1.setCell ⟨g, j * 4 + 2, none⟩ (.string (mkT (k + 1 + 1)))).cell? ⟨g, j * 4 + 3, none⟩ = some (.slice A' (exAt l j).ps.length c') := by rw [HW4.out]; exact f3
      clear hw2 hg2 hs2 hs3 hs4 hg4 hw4 hs5 f3 hsp hkp hb1 f0 f1 z0 z1 hin2
      go_wp2_with fail
      rw [HW4.out]
      clear g3 f2 z2 HW4
      refine (HQ.out a b A' (exAt l j).ps c' (k + 1 + 1 + 1) w4 HT4.out (by have := HIN.out; omega) (by omega) (by rw [← HZ.out]; omega)).mono ?_
      rintro e w5 ⟨rfl, hT5, hs5⟩
      have HT5 := Lib.hid hT5
      have HSP5 := Lib.hid hs5
      clear hT5 hs5
      have hin := HIN.out
      have HG5 := Lib.hid ((hG.trans HSP.out).trans (HSP5.out.wide hin.1 hin.2.2))
      have HO5 := Lib.hid (own_span HS5.out HSP5.out (fun q hq => by cases hq; have := HGAV.out; omega))
      have HCP5 : Hid (Chunks (ExN m w5) 4 ((mkX (m + 1) k0 l l').take j) xp) := Lib.hid (HCP4.out.mono_mem (fun x hx cs q => q.span HSP5.out (by have := HMIX.out.1 x (List.mem_append_left _ hx); omega) (.inl (HNE.out.1 x hx))))
      have HCQ5 : Hid (Chunks (ExN m w5) 4 (l'.drop (j + 1)) xq) := Lib.hid (HCQ4.out.mono_mem (fun x hx cs q => q.span HSP5.out (by have := HMIX.out.1 x (List.mem_append_right _ (List.mem_cons_of_mem _ hx)); omega) (.inr (HNE.out.2 x hx))))
      have HE : Hid ((mkX (m + 1) k0 l l')[j]? = some (mkE (m + 1) k (exAt l j), a, b)) := Lib.hid (by
        rw [mkX, List.getElem?_map, List.getElem?_range (by rw [HN'.out]; exact hlt)]
        simp only [Option.map_some, ← HK.out, HHA.out, HHB.out])
      have hmz := mkT_size (k + 1 + 1) (by omega)
      clear HT4 HCP4 HCQ4 hin
      go_wp2
      go_roundw
      case rel =>
        refine ⟨j + 1, by omega, by go_num, ?_, HG5.out, _, HO5.out, ?_⟩
        · rw [kAt_succ hlt, ← HK.out, show cntR (m + 1) (exAt l j) = cntS m (exAt l j).ps from rfl]
          congr 1; omega
        · obtain ⟨hjm, ej⟩ := List.getElem?_eq_some_iff.1 HE.out
          rw [List.take_succ_eq_append_getElem hjm, List.append_assoc, List.singleton_append, ej]
          refine HCP5.out.join rfl ⟨_, ?_, HT5.out, hmz⟩ HCQ5.out
          rw [mkE_succ, exHead]
          simp only [Ex.k, Ex.n, Ex.s]
      case measure => simp [intOf]; omega
    · obtain rfl : j = l.length := by omega
      go_wp2
      go_ret
      refine ⟨by rw [HK.out, kAt_all]; rfl, ?_, hG⟩
      have e := HCH.out
      rw [List.take_of_length_le (by rw [mkX_len, HN'.out]; exact Nat.le_refl _), List.drop_eq_nil_of_le (by rw [HN'.out]; exact Nat.le_refl _), List.append_nil] at e
      have hs := mkX_snd (m + 1) k0 l l'
      have hlm : (mkX (m + 1) k0 l l').length = l.length := by rw [mkX_len, HN'.out]
      exact ⟨mkX (m + 1) k0 l l', mkX_fst (m + 1) k0 HN'.out, asc_snd hs.symm HASC.out, av_snd hs.symm HAV.out, HVB.out, A, c, xs, by rw [hlm], by rw [hlm]; exact hown, e⟩
theorem mkQ_all : ∀ d, MkQ d
  | 0 => mkQ_zero
  | d + 1 => mkQ_succ (mkQ_all d)
set_option maxHeartbeats 1000000 in
theorem markExpr_any {d lo hi : Nat} {A : Option Addr} {r : Ex} {c : Nat} {k0 : Int} {w : World} (h : exT d lo hi w (.slice A r.ps.length c) r.ps) (hh : hi ≤ w.heap.size) (h0 : 0 ≤ k0) (h1 : k0 + 3 * (cntS d r.ps : Nat) ≤ 100000000000000) :
    Calls Try.prog 26 #[.agg #[.int .i64 r.k, .int .i64 r.n, .string r.s, .slice A r.ps.length c], .int .i64 k0] w fun e w' => e = .returned (.int .i64 (k0 + 3 * (cntS d r.ps : Nat))) ∧ exT d lo hi w' (.slice A r.ps.length c) (mkL d k0 r.ps) ∧ Span lo hi w w' := by
  have HB := Lib.hid (below_alloc w (.cells #[.int .i64 r.k, .int .i64 r.n, .string r.s, .slice A r.ps.length c] 28))
  have HM := Lib.hid (mkQ_all d lo hi A r.ps c k0 _ (h.below hh HB.out) (Nat.le_trans hh HB.out.size) h0 h1)
  obtain ⟨z, hz⟩ : ∃ z, z = cntS d r.ps := ⟨_, rfl⟩
  rw [← hz] at HM h1 ⊢
  clear hz h
  go_enter Try.func26, Try.ntmps26
  go_wp2_with fail
  refine HM.out.mono ?_
  rintro e w1 ⟨rfl, hT, hs⟩
  have HT := Lib.hid hT
  have HS := Lib.hid ((Span.ofBelow HB.out).trans hs)
  clear hT hs
  go_wp2
  go_ret
  exact ⟨rfl, HT.out, HS.out⟩
def HeQ (d : Nat) : Prop := ∀ (A : Option Addr) (l : ExL) (n c : Nat) (k0 : Int) (w : World), exW d w A (mkL d k0 l) → n = l.length → 0 ≤ k0 → k0 + 3 * (cntS d l : Nat) ≤ 100000000000000 →
  Calls Try.prog 86 #[.slice A n c, .int .i64 k0] w fun e w' => e = .returned (.int .i64 (k0 + 3 * (cntS d l : Nat))) ∧ Below w.heap.size w w'
set_option maxRecDepth 100000 in
set_option maxHeartbeats 4000000 in
theorem heQ_of {d : Nat} (hQ : ∀ m, d = m + 1 → HeQ m) : HeQ d := by
  intro A l n c k0 w hU hn hk0 hk1
  subst hn
  have HQ := Lib.hid hQ
  clear hQ
  have hln : l.length ≤ 100000000000000 := by unfold cntS at hk1; omega
  go_enter Try.func86, Try.ntmps86
  go_wp2
  go_loopw [1, 5] (fun kk i wr => ∃ j : Nat, j ≤ l.length ∧ i = .int .i64 j ∧ kk = .int .i64 (kAt d k0 l j) ∧ Below w.heap.size w wr) (fun _ i _ => l.length - (intOf i).toNat)
  case atStart => exact ⟨0, Nat.zero_le _, rfl, by rw [kAt_zero], Below.refl _ _⟩
  case round =>
    obtain ⟨j, hj, rfl, rfl, hB⟩ := hrel
    have hkb := kAt_le (d := d) k0 hj
    obtain ⟨k, hk⟩ : ∃ k, k = kAt d k0 l j := ⟨_, rfl⟩
    have HK := Lib.hid hk
    rw [← hk] at hkb ⊢
    clear hk
    by_cases hlt : j < l.length
    · have hd : ∃ m, d = m + 1 := by
        cases d with
        | zero => have h1 := exS.zero hU; have h2 := mkL_len 0 k0 l; rw [h1, List.length_nil] at h2; omega
        | succ m => exact ⟨m, rfl⟩
      obtain ⟨m, hm⟩ := hd
      subst hm
      have HQ1 := Lib.hid (HQ.out m rfl)
      have hkn : k + 3 * ((1 + cntS m (exAt l j).ps : Nat) : Int) ≤ k0 + 3 * (cntS (m + 1) l : Nat) := by
        have h1 := kAt_le (d := m + 1) k0 (show j + 1 ≤ l.length by omega)
        rw [kAt_succ hlt, ← HK.out] at h1
        exact h1.2
      obtain ⟨z, hz⟩ : ∃ z, z = cntS m (exAt l j).ps := ⟨_, rfl⟩
      have HZ := Lib.hid hz
      rw [← hz] at hkn
      clear hz
      obtain ⟨b, off, rfl, hcl⟩ := hU.cells (by rw [mkL_len]; omega)
      obtain ⟨A', c', hfd, hs, c0, c1, c2, c3⟩ := hcl j (by rw [mkL_len]; exact hlt)
      rw [mkL_at hlt, ← HK.out, mkE_succ] at hfd c0 c1 c2 c3
      replace c0 : w.cell? ⟨b, off + j * 4, none⟩ = some (.int .i64 k) := c0
      replace c1 : w.cell? ⟨b, off + j * 4 + 1, none⟩ = some (.int .i64 (k + 1)) := c1
      replace c2 : w.cell? ⟨b, off + j * 4 + 2, none⟩ = some (.string (mkT (k + 1 + 1))) := c2
      replace c3 : w.cell? ⟨b, off + j * 4 + 3, none⟩ = some (.slice A' (mkL m (k + 1 + 1 + 1) (exAt l j).ps).length c') := c3
      replace hfd : exW m w A' (mkL m (k + 1 + 1 + 1) (exAt l j).ps) := hfd
      rw [mkL_len] at c3
      replace c0 := below_cell hB c0
      replace c1 := below_cell hB c1
      replace c2 := below_cell hB c2
      replace c3 := below_cell hB c3
      have HFD := Lib.hid (hfd.below hB)
      have q2 := cell_regrown c2
      have HB := Lib.hid hB
      have H3 := Lib.hid c3
      have HE := Lib.hid (fun (w : World) => markText_any (k := k + 1 + 1) w (by omega))
      clear hcl hfd hs hB c2 c3
      go_wp2
      refine wp_region_quiet_below (by kernel_rfl) (by kernel_rfl) ?_
      repeat (go_big_quiet_step ((go_at_call 126; (with_reducible exact Calls.regrown_of (HE.out _)))))
      refine wpQuiet_nil ?_
      intro w2 hw'regrown
      have hbr := below_of_regrown hw'regrown (Nat.le_refl _)
      have c3 := below_cell hbr H3.out
      have HFD2 := Lib.hid (HFD.out.below hbr)
      replace hB := ext_trans HB.out hbr
      clear hw'regrown hbr q2 H3 HB HFD HE c0 c1
      go_wp2_with fail
      refine (HQ1.out A' (exAt l j).ps _ c' (k + 1 + 1 + 1) _ HFD2.out rfl (by omega) (by rw [← HZ.out]; omega)).mono ?_
      rintro e w5 ⟨rfl, hb⟩
      rw [← HZ.out]
      replace hB := ext_trans hB hb
      clear hb c3
      go_wp2
      go_roundw
      case rel =>
        refine ⟨j + 1, by omega, by go_num, ?_, hB⟩
        rw [kAt_succ hlt, ← HK.out, show cntR (m + 1) (exAt l j) = cntS m (exAt l j).ps from rfl, ← HZ.out]
        congr 1; omega
      case measure => simp [intOf]; omega
    · obtain rfl : j = l.length := by omega
      go_wp2
      go_ret
      exact ⟨by rw [HK.out, kAt_all]; rfl, hB⟩
theorem heQ_all : ∀ d, HeQ d
  | 0 => heQ_of (fun m h => by cases h)
  | d + 1 => heQ_of (fun m h => by cases h; exact heQ_all d)
set_option maxHeartbeats 1000000 in
theorem heldExpr_any {d : Nat} {A : Option Addr} {r : Ex} {k n : Int} {s : ByteArray} {c : Nat} {k0 : Int} {w : World} (h : exW d w A (mkL d k0 r.ps)) (h0 : 0 ≤ k0) (h1 : k0 + 3 * (cntS d r.ps : Nat) ≤ 100000000000000) :
    Calls Try.prog 27 #[.agg #[.int .i64 k, .int .i64 n, .string s, .slice A r.ps.length c], .int .i64 k0] w fun e w' => e = .returned (.int .i64 (k0 + 3 * (cntS d r.ps : Nat))) ∧ Below w.heap.size w w' := by
  have HB := Lib.hid (below_alloc w (.cells #[.int .i64 k, .int .i64 n, .string s, .slice A r.ps.length c] 28))
  have HM := Lib.hid (heQ_all d A r.ps _ c k0 _ (h.below HB.out) rfl h0 h1)
  obtain ⟨z, hz⟩ : ∃ z, z = cntS d r.ps := ⟨_, rfl⟩
  rw [← hz] at HM h1 ⊢
  clear hz h
  go_enter Try.func27, Try.ntmps27
  go_wp2_with fail
  refine HM.out.mono ?_
  rintro e w1 ⟨rfl, hb⟩
  have HB1 := Lib.hid (ext_trans HB.out hb)
  clear hb
  go_wp2
  go_ret
  exact ⟨rfl, HB1.out⟩
end Go.Proofs.Ytodjokdaofefdaa
/- The two functions that ask whether a number is in a range. -/
namespace Go.Proofs.Ytodjokdaofefdaa
set_option linter.unusedSimpArgs false
set_option linter.unusedVariables false
open Go.RowKit

set_option maxHeartbeats 400000 in
theorem l1In_any (n lo hi : Int) (w : World) :
    Calls Try.prog 59 #[.int .i64 n, .int .i64 lo, .int .i64 hi] w fun e w' => e = .returned (.bool (inB n lo hi)) ∧ Below w.heap.size w w' := by
  by_cases h1 : lo ≤ n
  all_goals
    go_enter Try.func59, Try.ntmps59
    go_wp2
    go_ret
    exact ⟨ret_bool (by simp [inB]; omega), Below.refl _ _⟩
set_option maxHeartbeats 400000 in
theorem in_any (n lo hi : Int) (w : World) :
    Calls Try.prog 55 #[.int .i64 n, .int .i64 lo, .int .i64 hi] w fun e w' => e = .returned (.bool (inB n lo hi)) ∧ Below w.heap.size w w' := by
  by_cases h1 : lo ≤ n
  all_goals
    go_enter Try.func55, Try.ntmps55
    go_wp2
    go_ret
    exact ⟨ret_bool (by simp [inB]; omega), Below.refl _ _⟩
end Go.Proofs.Ytodjokdaofefdaa
/- Expressions: how many parts and which numbers a kind has. -/
namespace Go.Proofs.Ytodjokdaofefdaa
set_option linter.unusedSimpArgs false
set_option linter.unusedVariables false
open Go.RowKit

def arK (k : Int) : Nat := if k = 8 ∨ k = 9 ∨ k = 13 then 1 else if k = 10 ∨ k = 11 ∨ k = 12 ∨ k = 14 ∨ k = 15 then 2 else 0
def nmK (k : Int) : Bool := decide (k = 7 ∨ k = 8 ∨ k = 9)
theorem partsOf_any (k : Int) (w : World) :
    Calls Try.prog 127 #[.int .i64 k] w fun e w' => e = .returned (.tuple #[.int .i64 (arK k), .bool (nmK k)]) ∧ Below w.heap.size w w' := by
  by_cases h : k = 7 ∨ k = 8 ∨ k = 9 ∨ k = 10 ∨ k = 11 ∨ k = 12 ∨ k = 13 ∨ k = 14 ∨ k = 15
  · rcases h with rfl | rfl | rfl | rfl | rfl | rfl | rfl | rfl | rfl
    all_goals
      go_enter Try.func127, Try.ntmps127
      go_wp2
      go_ret2
      exact ⟨rfl, Below.refl _ _⟩
  · have n7 : (k == 7) = false := by simp; omega
    have n8 : (k == 8) = false := by simp; omega
    have n9 : (k == 9) = false := by simp; omega
    have n10 : (k == 10) = false := by simp; omega
    have n11 : (k == 11) = false := by simp; omega
    have n12 : (k == 12) = false := by simp; omega
    have n13 : (k == 13) = false := by simp; omega
    have n14 : (k == 14) = false := by simp; omega
    have n15 : (k == 15) = false := by simp; omega
    have HA : Hid (arK k = 0) := Lib.hid (by unfold arK; rw [if_neg (by omega), if_neg (by omega)])
    have HN : Hid (nmK k = false) := Lib.hid (by unfold nmK; simp only [decide_eq_false_iff_not]; omega)
    clear h
    go_enter Try.func127, Try.ntmps127
    go_wp2
    go_ret2
    refine ⟨?_, Below.refl _ _⟩
    rw [HA.out, HN.out]; rfl
def mostK (k : Int) : Int := if k = 1 then 1 else if k = 2 then 99 else if k = 3 then 6 else 0
theorem greatestNumber_any (k : Int) (w : World) :
    Calls Try.prog 128 #[.int .i64 k] w fun e w' => e = .returned (.int .i64 (mostK k)) ∧ Below w.heap.size w w' := by
  by_cases h : k = 1 ∨ k = 2 ∨ k = 3
  · rcases h with rfl | rfl | rfl
    all_goals
      go_enter Try.func128, Try.ntmps128
      go_wp2
      go_ret
      exact ⟨rfl, Below.refl _ _⟩
  · have n1 : (k == 1) = false := by simp; omega
    have n2 : (k == 2) = false := by simp; omega
    have n3 : (k == 3) = false := by simp; omega
    have HA : Hid (mostK k = 0) := Lib.hid (by unfold mostK; rw [if_neg (by omega), if_neg (by omega), if_neg (by omega)])
    clear h
    go_enter Try.func128, Try.ntmps128
    go_wp2
    go_ret
    refine ⟨?_, Below.refl _ _⟩
    rw [HA.out]; rfl
theorem mostK_le (k : Int) : 0 ≤ mostK k ∧ mostK k ≤ 99 := by
  unfold mostK
  split
  · omega
  · split
    · omega
    · split <;> omega
/-- How many parts a kind has, by the reference: -1 for what is no kind. -/
def arS (k : Int) : Int := if inB k 1 15 then arK k else -1
set_option maxHeartbeats 4000000 in
set_option maxRecDepth 100000 in
theorem l4Parts_any (k : Int) (w : World) :
    Calls Try.prog 147 #[.int .i64 k] w fun e w' => e = .returned (.int .i64 (arS k)) ∧ Below w.heap.size w w' := by
  cases g : inB k 1 15
  · have HE : Hid (arS k = -1) := Lib.hid (by rw [arS, g]; rfl)
    have HG := Lib.hid g
    clear g
    go_enter Try.func147, Try.ntmps147
    go_wp2_with fail
    refine (l1In_any _ _ _ _).mono ?_
    rintro e w1 ⟨rfl, hB⟩
    rw [HG.out]
    go_wp2
    go_ret
    exact ⟨by rw [HE.out]; rfl, hB⟩
  · have hk := inB_true.1 g
    have h : k = 1 ∨ k = 2 ∨ k = 3 ∨ k = 4 ∨ k = 5 ∨ k = 6 ∨ k = 7 ∨ k = 8 ∨ k = 9 ∨ k = 10 ∨ k = 11 ∨ k = 12 ∨ k = 13 ∨ k = 14 ∨ k = 15 := by omega
    clear hk
    rcases h with rfl | rfl | rfl | rfl | rfl | rfl | rfl | rfl | rfl | rfl | rfl | rfl | rfl | rfl | rfl
    all_goals
      clear g
      go_enter Try.func147, Try.ntmps147
      go_wp2_with fail
      refine (l1In_any _ _ _ _).mono ?_
      rintro e w1 ⟨rfl, hB⟩
      rw [show inB _ 1 15 = true by decide]
      go_wp2
      go_ret
      exact ⟨rfl, ext_trans hB (by (repeat (first | exact Below.refl _ _ | refine ext_alloc ?_ _ | refine Below.setCell ?_ (by simp) _)))⟩
end Go.Proofs.Ytodjokdaofefdaa
/- impl.NameValid of any text; alive. -/
namespace Go.Proofs.Ytodjokdaofefdaa
set_option linter.unusedSimpArgs false
set_option linter.unusedVariables false
open Go.RowKit

def byteAt (s : ByteArray) (k : Nat) : Int := if h : k < s.size then (s[k]'h).toNat else 0
theorem byteAt_of {s : ByteArray} {k : Nat} (h : k < s.size) : byteAt s k = ((s[k]'h).toNat : Int) := dif_pos h
def nmGood (s : ByteArray) (k : Nat) : Bool := inB (byteAt s k) 97 122
def nmOk (s : ByteArray) : Bool := decide (∀ k, k < s.size → nmGood s k = true) && inB s.size 1 8
theorem nmOk_no {s : ByteArray} {k : Nat} (hk : k < s.size) (h : nmGood s k = false) : false = nmOk s := by
  have : ¬ ∀ k, k < s.size → nmGood s k = true := fun hh => by rw [hh k hk] at h; cases h
  simp [nmOk, this]
theorem nmOk_yes {s : ByteArray} (h : ∀ k, k < s.size → nmGood s k = true) : nmOk s = inB s.size 1 8 := by
  unfold nmOk
  rw [decide_eq_true h, Bool.true_and]

set_option maxHeartbeats 1000000 in
theorem implNameValid (s : ByteArray) (hs : s.size ≤ 9223372036854775807) (w : World) :
    Calls Try.prog 70 #[.string s] w fun e w' => e = .returned (.bool (nmOk s)) ∧ Below w.heap.size w w' := by
  go_enter Try.func70, Try.ntmps70
  go_wp2
  go_loopw [6] (fun i wr => ∃ k : Nat, k ≤ s.size ∧ i = .int .i64 k ∧ (∀ j, j < k → nmGood s j = true) ∧ Below w.heap.size w wr) (fun i _ => s.size - (intOf i).toNat)
  case atStart => exact ⟨0, Nat.zero_le _, rfl, fun j h => by omega, Below.refl _ _⟩
  case round =>
    obtain ⟨k, hk, rfl, hgood, hB⟩ := hrel
    have HG := Lib.hid hgood
    clear hgood
    by_cases hlt : k < s.size
    · have hx := byteAt_of hlt
      by_cases h1 : ((s[k]'hlt).toNat : Int) < 97
      · go_wp2
        go_ret
        exact ⟨ret_bool (nmOk_no hlt (by rw [nmGood, inB_false]; omega)), hB⟩
      · by_cases h2 : 122 < ((s[k]'hlt).toNat : Int)
        · go_wp2
          go_ret
          exact ⟨ret_bool (nmOk_no hlt (by rw [nmGood, inB_false]; omega)), hB⟩
        · go_wp2
          go_roundw
          case rel => exact ⟨k + 1, by omega, by go_num, all_succ HG.out (by rw [nmGood, inB_true]; omega), hB⟩
          case measure => simp [intOf]; omega
    · obtain rfl : k = s.size := by omega
      go_wp2_with fail
      refine (in_any _ _ _ _).mono ?_
      rintro e w2 ⟨rfl, hB2⟩
      go_wp2
      go_ret
      exact ⟨ret_bool (nmOk_yes HG.out).symm, ext_trans hB hB2⟩
def sA : ByteArray := ⟨#[97]⟩
theorem alive_any (w : World) : Calls Try.prog 19 #[] w fun e w' => e = .returned (.bool true) ∧ Below w.heap.size w w' := by
  go_enter Try.func19, Try.ntmps19
  go_wp2_with fail
  refine (implNameValid sA (by decide) _).mono ?_
  rintro e w2 ⟨rfl, hB2⟩
  go_wp2
  go_ret
  exact ⟨ret_bool (by decide), hB2⟩
end Go.Proofs.Ytodjokdaofefdaa
/- Expressions: sizes of valid ones, by the program. -/
namespace Go.Proofs.Ytodjokdaofefdaa
set_option linter.unusedSimpArgs false
set_option linter.unusedVariables false
open Go.RowKit

def headB (t : Ex) : Bool := inB t.k 1 15 && (inB t.n 0 (mostK t.k) && (decide (t.ps.length = arK t.k) && ((nmK t.k == !decide (t.s = ByteArray.empty)) && (!nmK t.k || nmOk t.s))))
/-- How many expressions are in a valid one at most so deep; 0 for others. -/
def szE : Nat → Ex → Nat
  | 0, _ => 0
  | m + 1, t => if (headB t && t.ps.all (fun p => decide (szE m p ≠ 0))) = true then 1 + (t.ps.map (szE m)).sum else 0
theorem arK_le (k : Int) : arK k ≤ 2 := by
  unfold arK
  split
  · omega
  · split <;> omega
theorem headB_len {t : Ex} (h : headB t = true) : t.ps.length ≤ 2 := by
  simp only [headB, Bool.and_eq_true, decide_eq_true_eq] at h
  have := arK_le t.k
  omega
theorem szE_lt : ∀ (m : Nat) (t : Ex), szE m t < 2 ^ m
  | 0, _ => by simp [szE]
  | m + 1, t => by
    rw [szE]
    split
    · rename_i h
      have hl := headB_len (Bool.and_eq_true_iff.1 h).1
      have ih := szE_lt m
      have hs : ∀ l : ExL, (l.map (szE m)).sum ≤ l.length * (2 ^ m - 1) := by
        intro l
        induction l with
        | nil => simp
        | cons a l ihl =>
          have := ih a
          simp only [List.map_cons, List.sum_cons, List.length_cons, Nat.succ_mul]
          omega
      have h1 := hs t.ps
      have h2 : t.ps.length * (2 ^ m - 1) ≤ 2 * (2 ^ m - 1) := Nat.mul_le_mul_right _ hl
      have h3 := Nat.two_pow_pos m
      rw [Nat.pow_succ]
      omega
    · exact Nat.two_pow_pos _
/-- Where a head stops being a valid one. -/
theorem headCases (t : Ex) : (inB t.k 1 15 = false ∧ headB t = false) ∨ (inB t.k 1 15 = true ∧ inB t.n 0 (mostK t.k) = false ∧ headB t = false) ∨
    (inB t.k 1 15 = true ∧ inB t.n 0 (mostK t.k) = true ∧ t.ps.length ≠ arK t.k ∧ headB t = false) ∨
    (inB t.k 1 15 = true ∧ inB t.n 0 (mostK t.k) = true ∧ t.ps.length = arK t.k ∧ (nmK t.k = decide (t.s = ByteArray.empty)) ∧ headB t = false) ∨
    (inB t.k 1 15 = true ∧ inB t.n 0 (mostK t.k) = true ∧ t.ps.length = arK t.k ∧ (nmK t.k = true ∧ decide (t.s = ByteArray.empty) = false) ∧ nmOk t.s = false ∧ headB t = false) ∨
    (inB t.k 1 15 = true ∧ inB t.n 0 (mostK t.k) = true ∧ t.ps.length = arK t.k ∧ (nmK t.k = true ∧ decide (t.s = ByteArray.empty) = false) ∧ nmOk t.s = true ∧ headB t = true) ∨
    (inB t.k 1 15 = true ∧ inB t.n 0 (mostK t.k) = true ∧ t.ps.length = arK t.k ∧ (nmK t.k = false ∧ decide (t.s = ByteArray.empty) = true) ∧ headB t = true) := by
  unfold headB
  cases inB t.k 1 15
  · simp
  · cases inB t.n 0 (mostK t.k)
    · simp
    · by_cases h : t.ps.length = arK t.k
      · cases nmK t.k <;> cases decide (t.s = ByteArray.empty) <;> cases nmOk t.s <;> simp [h]
      · simp [h]
end Go.Proofs.Ytodjokdaofefdaa
/- Expressions: sizes, by the reference. -/
namespace Go.Proofs.Ytodjokdaofefdaa
set_option linter.unusedSimpArgs false
set_option linter.unusedVariables false
open Go.RowKit

theorem cnt_le {d : Nat} {l : ExL} {k : Nat} (hk : k ≤ l.length) : ((l.take k).map (cntR d)).sum ≤ (l.map (cntR d)).sum := by
  have h : l.map (cntR d) = (l.take k).map (cntR d) ++ (l.drop k).map (cntR d) := by rw [← List.map_append, List.take_append_drop]
  rw [h, List.sum_append]; omega
def SsQ (d : Nat) : Prop := ∀ (A : Option Addr) (r : Ex) (c : Nat) (w : World), exW d w A r.ps → cntS d r.ps ≤ 2097152 →
  Calls Try.prog 118 #[.agg #[.int .i64 r.k, .int .i64 r.n, .string r.s, .slice A r.ps.length c]] w fun e w' => e = .returned (.int .i64 ((1 + cntS d r.ps : Nat) : Int)) ∧ Below w.heap.size w w'
set_option maxRecDepth 100000 in
set_option maxHeartbeats 4000000 in
theorem ssQ_of {d : Nat} (hQ : ∀ m, d = m + 1 → SsQ m) : SsQ d := by
  intro A r c w hU hcnt
  have hl := exS.len hU
  have HQ := Lib.hid hQ
  have HCN := Lib.hid hcnt
  clear hQ
  obtain ⟨W, hW⟩ : ∃ W, W = w.alloc (.cells #[.int .i64 r.k, .int .i64 r.n, .string r.s, .slice A r.ps.length c] 28) := ⟨_, rfl⟩
  have hBW : Below w.heap.size w W := by rw [hW]; (repeat (first | exact Below.refl _ _ | refine ext_alloc ?_ _ | refine Below.setCell ?_ (by simp) _))
  have b3 : W.cell? ⟨w.heap.size, 3, none⟩ = some (.slice A r.ps.length c) := by rw [hW]; exact box_cell w _ _ 3 _ rfl
  have HW := Lib.hid hW
  have HB3 := Lib.hid b3
  have HBW := Lib.hid hBW
  have hlc : r.ps.length ≤ 2097152 := by unfold cntS at hcnt; omega
  clear hW b3 hBW hcnt
  go_enter Try.func118, Try.ntmps118
  go_wp2
  go_loopw [3, 4] (fun ov kv wr => ∃ (k s : Nat), k ≤ r.ps.length ∧ kv = .int .i64 k ∧ ov = .int .i64 (s : Int) ∧ Hid (s = 1 + k + ((r.ps.take k).map (cntR d)).sum) ∧ s ≤ 2097153 ∧ Below W.heap.size W wr) (fun _ kv _ => r.ps.length - (intOf kv).toNat)
  case atStart => exact ⟨0, 1, Nat.zero_le _, rfl, rfl, Lib.hid (by simp), by omega, by rw [HW.out]; exact Below.refl _ _⟩
  case round =>
    obtain ⟨k, s, hk, rfl, rfl, HS, hs, hB⟩ := hrel
    have b3 := below_cell hB HB3.out
    by_cases hlt : k < r.ps.length
    · have hd : ∃ m, d = m + 1 := by
        cases d with
        | zero => have := exS.zero hU; rw [this] at hlt; simp at hlt
        | succ m => exact ⟨m, rfl⟩
      obtain ⟨m, hm⟩ := hd
      subst hm
      have HQ1 := Lib.hid (HQ.out m rfl)
      obtain ⟨b, off, rfl, hc⟩ := (hU.below HBW.out).cells (by omega)
      obtain ⟨A1, c1, hfd, hs1, p0, p1, p2, p3⟩ := hc k hlt
      replace p0 := below_cell hB p0
      replace p1 := below_cell hB p1
      replace p2 := below_cell hB p2
      replace p3 := below_cell hB p3
      replace hfd := hfd.below hB
      clear hc
      have HT := Lib.hid (cnt_take (d := m + 1) hlt)
      have HL := Lib.hid (cnt_le (d := m + 1) (l := r.ps) (k := k + 1) (by omega))
      obtain ⟨z, hz⟩ : ∃ z, cntS m (exAt r.ps k).ps = z := ⟨_, rfl⟩
      have hz2 : cntR (m + 1) (exAt r.ps k) = z := hz
      have hall : s + (1 + z) ≤ 2097153 ∧ s + (1 + z) = 1 + (k + 1) + ((r.ps.take (k + 1)).map (cntR (m + 1))).sum := by
        have h1 := HL.out
        have h2 := HT.out
        have h3 := HCN.out
        have h4 := HS.out
        unfold cntS at h3
        rw [hz2] at h2
        omega
      have hzl : z ≤ 2097152 := by omega
      have HZ := Lib.hid hz
      have HALL := Lib.hid hall.2
      have hall1 := hall.1
      clear hz hz2 hall
      go_wp2_with fail
      refine (HQ1.out _ _ _ _ hfd (by rw [HZ.out]; exact hzl)).mono ?_
      rintro e w4 ⟨rfl, hb⟩
      rw [HZ.out]
      replace hB := ext_trans hB hb
      clear hb p0 p1 p2 p3 hfd b3
      go_wp2
      go_roundw
      case rel => exact ⟨k + 1, s + (1 + z), by omega, by go_num, by go_num, Lib.hid HALL.out, hall1, hB⟩
      case measure => simp [intOf]; omega
    · obtain rfl : k = r.ps.length := by omega
      have HE : Hid (s = 1 + cntS d r.ps) := Lib.hid (by have := HS.out; rw [List.take_length] at this; unfold cntS; omega)
      go_wp2
      go_ret
      exact ⟨by rw [← HE.out]; rfl, ext_trans HBW.out hB⟩
theorem ssQ_all : ∀ d, SsQ d
  | 0 => ssQ_of (fun m h => by cases h)
  | d + 1 => ssQ_of (fun m h => by cases h; exact ssQ_all d)
end Go.Proofs.Ytodjokdaofefdaa
/- Expressions: depths, by the reference. -/
namespace Go.Proofs.Ytodjokdaofefdaa
set_option linter.unusedSimpArgs false
set_option linter.unusedVariables false
open Go.RowKit

def mxL : List Nat → Nat
  | [] => 0
  | a :: l => max a (mxL l)
theorem mx_snoc (a : Nat) : ∀ l : List Nat, mxL (l ++ [a]) = max (mxL l) a
  | [] => by simp [mxL]
  | b :: l => by rw [List.cons_append, mxL, mx_snoc a l, mxL]; omega
def dpR : Nat → Ex → Nat
  | 0, _ => 0
  | d + 1, t => 1 + mxL (t.ps.map (dpR d))
theorem mx_take {d : Nat} {l : ExL} {k : Nat} (hk : k < l.length) : mxL ((l.take (k + 1)).map (dpR d)) = max (mxL ((l.take k).map (dpR d))) (dpR d (exAt l k)) := by
  rw [List.take_succ_eq_append_getElem hk, List.map_append, exAt_eq hk, List.map_cons, List.map_nil, mx_snoc]
theorem dp_le : ∀ (d : Nat) (t : Ex), dpR d t ≤ 1 + cntR d t
  | 0, _ => by simp [dpR]
  | d + 1, t => by
    have h : ∀ l : ExL, mxL (l.map (dpR d)) ≤ l.length + (l.map (cntR d)).sum := by
      intro l
      induction l with
      | nil => simp [mxL]
      | cons a l ih =>
        have := dp_le d a
        simp only [List.map_cons, mxL, List.sum_cons, List.length_cons]
        omega
    have := h t.ps
    rw [dpR, cntR]
    omega
def SdQ (d : Nat) : Prop := ∀ (A : Option Addr) (r : Ex) (c : Nat) (w : World), exW d w A r.ps → cntS d r.ps ≤ 2097152 →
  Calls Try.prog 119 #[.agg #[.int .i64 r.k, .int .i64 r.n, .string r.s, .slice A r.ps.length c]] w fun e w' => e = .returned (.int .i64 ((1 + mxL (r.ps.map (dpR d)) : Nat) : Int)) ∧ Below w.heap.size w w'
set_option maxRecDepth 100000 in
set_option maxHeartbeats 4000000 in
theorem sdQ_of {d : Nat} (hQ : ∀ m, d = m + 1 → SdQ m) : SdQ d := by
  intro A r c w hU hcnt
  have hl := exS.len hU
  have HQ := Lib.hid hQ
  have HCN := Lib.hid hcnt
  clear hQ
  obtain ⟨W, hW⟩ : ∃ W, W = w.alloc (.cells #[.int .i64 r.k, .int .i64 r.n, .string r.s, .slice A r.ps.length c] 28) := ⟨_, rfl⟩
  have hBW : Below w.heap.size w W := by rw [hW]; (repeat (first | exact Below.refl _ _ | refine ext_alloc ?_ _ | refine Below.setCell ?_ (by simp) _))
  have b3 : W.cell? ⟨w.heap.size, 3, none⟩ = some (.slice A r.ps.length c) := by rw [hW]; exact box_cell w _ _ 3 _ rfl
  have HW := Lib.hid hW
  have HB3 := Lib.hid b3
  have HBW := Lib.hid hBW
  have hlc : r.ps.length ≤ 2097152 := by unfold cntS at hcnt; omega
  clear hW b3 hBW hcnt
  go_enter Try.func119, Try.ntmps119
  go_wp2
  go_loopw [3, 4] (fun ov kv wr => ∃ (k s : Nat), k ≤ r.ps.length ∧ kv = .int .i64 k ∧ ov = .int .i64 (s : Int) ∧ Hid (s = mxL ((r.ps.take k).map (dpR d))) ∧ s ≤ 2097153 ∧ Below W.heap.size W wr) (fun _ kv _ => r.ps.length - (intOf kv).toNat)
  case atStart => exact ⟨0, 0, Nat.zero_le _, rfl, rfl, Lib.hid (by simp [mxL]), by omega, by rw [HW.out]; exact Below.refl _ _⟩
  case round =>
    obtain ⟨k, s, hk, rfl, rfl, HS, hs, hB⟩ := hrel
    have b3 := below_cell hB HB3.out
    by_cases hlt : k < r.ps.length
    · have hd : ∃ m, d = m + 1 := by
        cases d with
        | zero => have := exS.zero hU; rw [this] at hlt; simp at hlt
        | succ m => exact ⟨m, rfl⟩
      obtain ⟨m, hm⟩ := hd
      subst hm
      have HQ1 := Lib.hid (HQ.out m rfl)
      obtain ⟨b, off, rfl, hc⟩ := (hU.below HBW.out).cells (by omega)
      obtain ⟨A1, c1, hfd, hs1, p0, p1, p2, p3⟩ := hc k hlt
      replace p0 := below_cell hB p0
      replace p1 := below_cell hB p1
      replace p2 := below_cell hB p2
      replace p3 := below_cell hB p3
      replace hfd := hfd.below hB
      clear hc
      have HT := Lib.hid (mx_take (d := m + 1) hlt)
      have hcz : cntS m (exAt r.ps k).ps ≤ 2097152 := by
        have h1 := cnt_le (d := m + 1) (l := r.ps) (k := k + 1) (by omega)
        have h2 := cnt_take (d := m + 1) hlt
        have h3 := HCN.out
        have h4 : cntR (m + 1) (exAt r.ps k) = cntS m (exAt r.ps k).ps := rfl
        unfold cntS at h3
        omega
      obtain ⟨z, hz⟩ : ∃ z, 1 + mxL ((exAt r.ps k).ps.map (dpR m)) = z := ⟨_, rfl⟩
      have hz2 : dpR (m + 1) (exAt r.ps k) = z := hz
      have hzl : z ≤ 2097153 := by
        have h1 := dp_le (m + 1) (exAt r.ps k)
        have h4 : cntR (m + 1) (exAt r.ps k) = cntS m (exAt r.ps k).ps := rfl
        omega
      have HCZ := Lib.hid hcz
      have HZ := Lib.hid hz
      have HZ2 := Lib.hid hz2
      clear hz hz2 hcz
      go_wp2_with fail
      refine (HQ1.out _ _ _ _ hfd HCZ.out).mono ?_
      rintro e w4 ⟨rfl, hb⟩
      rw [HZ.out]
      replace hB := ext_trans hB hb
      clear hb p0 p1 p2 p3 hfd b3
      by_cases h : s < z
      · go_wp2
        go_roundw
        case rel => exact ⟨k + 1, z, by omega, by go_num, by simp [h], Lib.hid (by rw [HT.out, ← HS.out, HZ2.out]; omega), hzl, hB⟩
        case measure => simp [intOf]; omega
      · go_wp2
        go_roundw
        case rel => exact ⟨k + 1, s, by omega, by go_num, by simp [h], Lib.hid (by rw [HT.out, ← HS.out, HZ2.out]; omega), hs, hB⟩
        case measure => simp [intOf]; omega
    · obtain rfl : k = r.ps.length := by omega
      have HE : Hid (s = mxL (r.ps.map (dpR d))) := Lib.hid (by have := HS.out; rwa [List.take_length] at this)
      go_wp2
      go_ret
      exact ⟨by rw [← HE.out, Nat.add_comm 1 s]; rfl, ext_trans HBW.out hB⟩
theorem sdQ_all : ∀ d, SdQ d
  | 0 => sdQ_of (fun m h => by cases h)
  | d + 1 => sdQ_of (fun m h => by cases h; exact sdQ_all d)
end Go.Proofs.Ytodjokdaofefdaa
