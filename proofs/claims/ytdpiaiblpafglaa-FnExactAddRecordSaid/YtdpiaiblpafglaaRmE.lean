/- Records whose fields lie apart: marks, and what is held of them. -/
import Derived.Test.YtdpiaiblpafglaaRmC
namespace Go.Proofs.Ytdpiaiblpafglaa
set_option linter.unusedSimpArgs false
set_option linter.unusedVariables false
open Go.RowKit

/-- Only blocks from lo to hi turn, and new ones come. -/
structure Span (lo hi : Nat) (w w' : World) : Prop where
  os : w'.os = w.os
  tape : w'.tape = w.tape
  output : w'.output = w.output
  size : w.heap.size ≤ w'.heap.size
  out : ∀ k, k < w.heap.size → (k < lo ∨ hi ≤ k) → w'.heap[k]? = w.heap[k]?
theorem Span.refl (lo hi : Nat) (w : World) : Span lo hi w w := ⟨rfl, rfl, rfl, Nat.le_refl _, fun _ _ _ => rfl⟩
theorem Span.trans {lo hi : Nat} {a b c : World} (h : Span lo hi a b) (h2 : Span lo hi b c) : Span lo hi a c :=
  ⟨h2.os.trans h.os, h2.tape.trans h.tape, h2.output.trans h.output, Nat.le_trans h.size h2.size, fun k hk hr => (h2.out k (Nat.lt_of_lt_of_le hk h.size) hr).trans (h.out k hk hr)⟩
theorem Span.of {lo hi : Nat} {w w' : World} {row : Option Nat} (hg : w.grownBy w' row) (hr : ∀ k, row = some k → lo ≤ k ∧ k < hi) : Span lo hi w w' :=
  ⟨hg.os, hg.tape, hg.output, hg.size, fun k hk ho => hg.block k hk (fun e => by have := hr k e.symm; omega)⟩
theorem Span.ofBelow {lo hi : Nat} {w w' : World} (hb : Below w.heap.size w w') : Span lo hi w w' := ⟨hb.os, hb.tape, hb.output, hb.size, fun k hk _ => hb.block k hk⟩
theorem Span.below {lo hi B : Nat} {a w w' : World} (h : Below B a w) (hs : Span lo hi w w') (hB : B ≤ w.heap.size) (hl : B ≤ lo) : Below B a w' :=
  h.trans ⟨hs.os, hs.tape, hs.output, hs.size, fun k hk => hs.out k (by omega) (.inl (by omega))⟩
theorem own_span {B sz n lo hi : Nat} {e : TypeId} {w w' : World} {v : Value} {xs : List Value} (h : w.ownsRow B e sz v n xs) (hs : Span lo hi w w') (hne : ∀ k, v.ownBlock = some k → k < lo ∨ hi ≤ k) : w'.ownsRow B e sz v n xs := by
  rcases h with ⟨h1, h2 | ⟨g, cap, cur, hv, hg, hc, hrest⟩⟩
  · exact ⟨h1, .inl h2⟩
  · have := hs.out g (Array.getElem?_eq_some_iff.1 hc).1 (hne g (by rw [hv]; rfl))
    exact ⟨h1, .inr ⟨g, cap, cur, hv, hg, this.trans hc, hrest⟩⟩
theorem RcWx.span {B lo hi : Nat} {w w' : World} (hs : Span lo hi w w') (a : RcX) (cs : List Value) (hne : ∀ k, a.2.ownBlock = some k → k < lo ∨ hi ≤ k) (h : RcWx B w a cs) : RcWx B w' a cs := by
  obtain ⟨h1, A, c, e, ho⟩ := h
  exact ⟨h1, A, c, e, own_span ho hs (by rw [← e]; exact hne)⟩
theorem RcWx.grown {B : Nat} {w w' : World} {row : Option Nat} (hg : w.grownBy w' row) (a : RcX) (cs : List Value) (hne : ∀ k, a.2.ownBlock = some k → row ≠ some k) (h : RcWx B w a cs) : RcWx B w' a cs := by
  obtain ⟨h1, A, c, e, ho⟩ := h
  exact ⟨h1, A, c, e, own_apart_ ho hg (by rw [← e]; exact hne)⟩
section
variable {α : Type} {R R' : α → List Value → Prop} {sz : Nat}
theorem Chunks.mono_mem {l : List α} {xs : List Value} (hR : ∀ a ∈ l, ∀ cs, R a cs → R' a cs) (h : Chunks R sz l xs) : Chunks R' sz l xs := by
  induction l generalizing xs with
  | nil => exact h
  | cons a l ih => obtain ⟨c, r, rfl, h1, h2, h3⟩ := h; exact ⟨c, r, rfl, h1, hR a (by simp) _ h2, ih (fun b hb => hR b (by simp [hb])) h3⟩
theorem Chunks.cut {p q : List α} {a : α} {xs : List Value} (h : Chunks R sz (p ++ a :: q) xs) : ∃ xp c xq, xs = xp ++ c ++ xq ∧ xp.length = p.length * sz ∧ c.length = sz ∧ Chunks R sz p xp ∧ R a c ∧ Chunks R sz q xq := by
  induction p generalizing xs with
  | nil =>
    obtain ⟨c, r, rfl, h1, h2, h3⟩ := h
    exact ⟨[], c, r, by simp, by simp, h1, rfl, h2, h3⟩
  | cons b p ih =>
    obtain ⟨c, r, rfl, h1, h2, h3⟩ := h
    obtain ⟨xp, c', xq, rfl, g1, g2, g3, g4, g5⟩ := ih h3
    exact ⟨c ++ xp, c', xq, by simp [List.append_assoc], by simp [g1, h1, Nat.add_mul]; omega, g2, ⟨c, xp, rfl, h1, h2, g3⟩, g4, g5⟩
theorem Chunks.join {p q : List α} {a : α} {xp c xq : List Value} (hp : Chunks R sz p xp) (hc : c.length = sz) (ha : R a c) (hq : Chunks R sz q xq) : Chunks R sz (p ++ a :: q) (xp ++ c ++ xq) := by
  rw [List.append_assoc]
  exact hp.append ⟨c, xq, rfl, hc, ha, hq⟩
end
/-- Records apart, in blocks from B to hi. -/
def OwnM (B hi : Nat) (w : World) (v : Value) (l : RcL) : Prop := ∃ l' : List RcX, l'.map Prod.fst = l ∧ ApL l' ∧ OwnG (RcWx B) B 27 7 w v l' ∧ (∀ a ∈ l', ∀ k, a.2.ownBlock = some k → k < hi) ∧ ∀ k, v.ownBlock = some k → k < hi
theorem OwnN.m {B : Nat} {w : World} {v : Value} {l : RcL} (h : OwnN B w v l) : OwnM B w.heap.size w v l := by
  obtain ⟨l', h1, h2, h3⟩ := h
  exact ⟨l', h1, h2, h3, fun a ha k hk => (h3.inn a ha k hk).2, fun k hk => (h3.ge k hk).2⟩
theorem OwnM.n {B hi : Nat} {w : World} {v : Value} {l : RcL} (h : OwnM B hi w v l) : OwnN B w v l := let ⟨l', h1, h2, h3, _⟩ := h; ⟨l', h1, h2, h3⟩
theorem OwnM.below {B hi : Nat} {w w' : World} {v : Value} {l : RcL} (h : OwnM B hi w v l) (hb : Below w.heap.size w w') : OwnM B hi w' v l :=
  let ⟨l', h1, h2, h3, h4⟩ := h; ⟨l', h1, h2, h3.below hb (RcWx.below hb), h4⟩
theorem OwnM.span {B hi lo2 hi2 : Nat} {w w' : World} {v : Value} {l : RcL} (h : OwnM B hi w v l) (hs : Span lo2 hi2 w w') (hd : hi ≤ lo2 ∨ hi2 ≤ B) : OwnM B hi w' v l := by
  obtain ⟨l', h1, h2, h3, h4, h5⟩ := h
  have hin := h3.inn
  have hge := h3.ge
  obtain ⟨A, c, xs, e, ho, hc⟩ := h3
  refine ⟨l', h1, h2, ⟨A, c, xs, e, own_span ho hs (fun k hk => ?_), hc.mono_mem (fun a ha cs => RcWx.span hs a cs (fun k hk => ?_))⟩, h4, h5⟩
  · rw [← e] at hk
    have := hge k hk
    have := h5 k hk
    omega
  · have := hin a ha k hk
    have := h4 a ha k hk
    omega
/-- What marks write into a record. -/
def rcMk1 (k : Int) (r : Rc) : Rc := (k, k + 1, k + 1 + 1, k + 1 + 1 + 1, fdMk (k + 1 + 1 + 1 + 1) (rfs r).length, (k + 1 + 1 + 1 + 1) % 3 == 0, k + 1 + 1 + 1 + 1 + 3 * ((rfs r).length : Int) + 1)
def rcKs (k0 : Int) (l : RcL) : Nat → Int
  | 0 => k0
  | j + 1 => rcKs k0 l j + 6 + 3 * ((rc4 l j).length : Int)
def rcMk (k0 : Int) (l : RcL) : RcL := (List.range l.length).map fun i => rcMk1 (rcKs k0 l i) (rcAt l i)
theorem rcMk_len (k0 : Int) (l : RcL) : (rcMk k0 l).length = l.length := by simp [rcMk]
theorem rcMk_at (k0 : Int) {l : RcL} {j : Nat} (h : j < l.length) : rcAt (rcMk k0 l) j = rcMk1 (rcKs k0 l j) (rcAt l j) := by
  rw [rcAt, rcMk, List.getD_eq_getElem?_getD, List.getElem?_map, List.getElem?_range h]; rfl
theorem rcKs_bound (k0 : Int) {l : RcL} (hf : FewF 1048576 l) : ∀ j, j ≤ l.length → k0 ≤ rcKs k0 l j ∧ rcKs k0 l j ≤ k0 + 3145734 * (j : Int) := by
  intro j
  induction j with
  | zero => intro _; simp [rcKs]
  | succ j ih =>
    intro h
    have h1 := ih (by omega)
    have h2 := hf j (by omega)
    simp only [rcKs]
    omega
def vAt (l : List RcX) (i : Nat) : Value := (l.getD i (rcD, .slice Option.none 0 0)).2
def mkX (k0 : Int) (l : RcL) (l' : List RcX) : List RcX := (List.range l'.length).map fun i => (rcMk1 (rcKs k0 l i) (rcAt l i), vAt l' i)
theorem mkX_len (k0 : Int) (l : RcL) (l' : List RcX) : (mkX k0 l l').length = l'.length := by simp [mkX]
theorem vAt_eq {l : List RcX} {i : Nat} (h : i < l.length) : vAt l i = l[i].2 := by simp [vAt, h]
theorem mkX_snd (k0 : Int) (l : RcL) (l' : List RcX) : (mkX k0 l l').map Prod.snd = l'.map Prod.snd := by
  apply List.ext_getElem
  · simp [mkX]
  · intro i h1 h2
    simp only [List.length_map] at h2
    simp [mkX, vAt_eq h2]
theorem mkX_fst (k0 : Int) {l : RcL} {l' : List RcX} (h : l'.length = l.length) : (mkX k0 l l').map Prod.fst = rcMk k0 l := by
  rw [mkX, rcMk, List.map_map, h]; rfl
theorem apL_snd {l l2 : List RcX} (h : l.map Prod.snd = l2.map Prod.snd) (ha : ApL l) : ApL l2 := by
  have h1 : (l.map Prod.snd).Pairwise fun a b => ∀ k, Value.ownBlock a = some k → Value.ownBlock b ≠ some k := List.pairwise_map.2 ha
  rw [h] at h1
  exact List.pairwise_map.1 h1
theorem ApL.ne {p q : List RcX} {a : RcX} (h : ApL (p ++ a :: q)) : (∀ b ∈ p, ∀ k, b.2.ownBlock = some k → a.2.ownBlock ≠ some k) ∧ ∀ b ∈ q, ∀ k, b.2.ownBlock = some k → a.2.ownBlock ≠ some k := by
  have h1 := List.pairwise_append.1 h
  refine ⟨fun b hb k hk => h1.2.2 b hb a (by simp) k hk, fun b hb k hk e => ?_⟩
  exact (List.pairwise_cons.1 h1.2.1).1 b hb k e hk
theorem row7 {α : Type} (xp xq : List α) {o : Nat} (ho : xp.length = o) (c0 c1 c2 c3 c4 c5 c6 n0 n1 n2 n3 : α) :
    (xp ++ [c0, c1, c2, c3, c4, c5, c6] ++ xq).take o ++ [n0, n1, n2, n3] ++ (xp ++ [c0, c1, c2, c3, c4, c5, c6] ++ xq).drop (o + 4) = xp ++ [n0, n1, n2, n3, c4, c5, c6] ++ xq := by
  subst ho
  simp [List.take_append, List.drop_append]
theorem row7b {α : Type} (xp xq : List α) {o : Nat} (ho : xp.length = o) (c0 c1 c2 c3 c4 c5 c6 n5 n6 : α) :
    (xp ++ [c0, c1, c2, c3, c4, c5, c6] ++ xq).take (o + 5) ++ [n5, n6] ++ (xp ++ [c0, c1, c2, c3, c4, c5, c6] ++ xq).drop (o + 5 + 2) = xp ++ [c0, c1, c2, c3, c4, n5, n6] ++ xq := by
  subst ho
  simp [List.take_append, List.drop_append, show xp.length + 5 - xp.length = 5 by omega, show xp.length + 5 + 2 - xp.length = 7 by omega, List.take_of_length_le (show xp.length ≤ xp.length + 5 by omega), List.drop_eq_nil_of_le (show xp.length ≤ xp.length + 5 + 2 by omega)]
theorem at7 {α : Type} (xp xq : List α) {o : Nat} (ho : xp.length = o) (c0 c1 c2 c3 c4 c5 c6 : α) : (xp ++ [c0, c1, c2, c3, c4, c5, c6] ++ xq)[o + 4]? = some c4 := by
  subst ho
  simp
theorem own_typ {B sz n c g : Nat} {e : TypeId} {w : World} {xs : List Value} (h : w.ownsRow B e sz (.slice (some ⟨g, 0, none⟩) n c) n xs) : ∃ cs fr, w.heap[g]? = some (.cells cs e fr) := by
  rcases h.2 with ⟨h1, _⟩ | ⟨g2, cap, cur, hv, _, hx2, _⟩
  · cases h1
  · simp only [Value.slice.injEq, Option.some.injEq, Addr.mk.injEq, and_true] at hv
    obtain ⟨rfl, _⟩ := hv
    exact ⟨_, _, hx2⟩
/-- The rows of records and of fields are not the same. -/
theorem typ_ne {B B' sz sz' n n' c g : Nat} {w : World} {v : Value} {xs ys : List Value} (h : w.ownsRow B 27 sz (.slice (some ⟨g, 0, none⟩) n c) n xs) (h2 : w.ownsRow B' 85 sz' v n' ys) : v.ownBlock ≠ some g := fun e => by
  obtain ⟨cs, fr, hx⟩ := own_typ h
  rcases h2.2 with ⟨h1, _⟩ | ⟨g2, cap, cur, hv, _, hx2, _⟩
  · rw [h1] at e; cases e
  · rw [hv] at e
    simp only [Value.ownBlock, Option.some.injEq] at e
    subst e
    rw [hx] at hx2
    simp only [Option.some.injEq, Obj.cells.injEq] at hx2
    exact absurd hx2.2.1 (by decide)
set_option maxRecDepth 100000 in
set_option maxHeartbeats 8000000 in
theorem markRecordS_n {A : Option Addr} {l : RcL} {B hi c : Nat} {k0 : Int} {w : World} (h : OwnM B hi w (.slice A l.length c) l) (hn : l.length ≤ 2097152) (hf : FewF 1048576 l) (hk0 : 0 ≤ k0) (hk1 : k0 ≤ 1000) :
    Calls Try.prog 35 #[.slice A l.length c, .int .i64 k0] w fun e w' => e = .returned (.int .i64 (rcKs k0 l l.length)) ∧ OwnM B hi w' (.slice A l.length c) (rcMk k0 l) ∧ Span B hi w w' := by
  obtain ⟨l', hl', hap, hO, hu, hv⟩ := h
  have hin := hO.inn
  have hge := hO.ge
  obtain ⟨A1, c1, xs0, e, ho, hc⟩ := hO
  have hn' : l'.length = l.length := by rw [← hl', List.length_map]
  rw [hn'] at ho e
  simp only [Value.slice.injEq, true_and] at e
  obtain ⟨rfl, rfl⟩ := e
  have HL' := Lib.hid hl'
  have HAP := Lib.hid hap
  have HU := Lib.hid hu
  have HV := Lib.hid hv
  have HIN := Lib.hid hin
  have HGE := Lib.hid hge
  have HN' := Lib.hid hn'
  have HKS := Lib.hid (rcKs_bound k0 hf)
  have HF := Lib.hid hf
  clear hl' hap hu hv hin hge hn' hf
  go_enter Try.func35, Try.ntmps35
  go_wp2
  go_loopw [1, 5] (fun kk i wr => ∃ j : Nat, j ≤ l.length ∧ i = .int .i64 j ∧ kk = .int .i64 (rcKs k0 l j) ∧ Span B hi w wr ∧ ∃ xs, wr.ownsRow B 27 7 (.slice A l.length c) l.length xs ∧ Chunks (RcWx B wr) 7 ((mkX k0 l l').take j ++ l'.drop j) xs) (fun _ i _ => l.length - (intOf i).toNat)
  case atStart => exact ⟨0, Nat.zero_le _, rfl, rfl, Span.refl _ _ _, _, ho, hc⟩
  case round =>
    clear ho hc
    obtain ⟨j, hj, rfl, rfl, hG, xs, hown, hch⟩ := hrel
    have HCH := Lib.hid hch
    clear hch
    obtain ⟨k, hk⟩ : ∃ k, k = rcKs k0 l j := ⟨_, rfl⟩
    have hkb := HKS.out j hj
    rw [← hk] at hkb ⊢
    have HK := Lib.hid hk
    clear hk
    by_cases hlt : j < l.length
    · obtain ⟨g, cap, hv, hBg, hglt⟩ := hown.form (by omega)
      simp only [Value.slice.injEq, true_and] at hv
      obtain ⟨rfl, rfl⟩ := hv
      have hjl : j < l'.length := by rw [HN'.out]; exact hlt
      have hd : l'.drop j = l'[j] :: l'.drop (j + 1) := List.drop_eq_getElem_cons hjl
      have hx1 : l'[j].1 = rcAt l j := by
        have e1 : l[j] = l'[j].1 := by simp only [← HL'.out, List.getElem_map]
        rw [rcAt_eq hlt, e1]
      have hx2 : l'[j].2 = vAt l' j := (vAt_eq hjl).symm
      have hch := HCH.out
      rw [hd] at hch
      obtain ⟨xp, cc, xq, hxs, hxp, hcl, hcp, ⟨hcc, hoa⟩, hcq⟩ := hch.cut
      rw [hx1] at hcc hoa
      rw [hx2] at hcc hoa
      have hxp' : xp.length = j * 7 := by rw [hxp, List.length_take, mkX_len, Nat.min_eq_left (by omega)]
      have hmix : ApL ((mkX k0 l l').take j ++ l'[j] :: l'.drop (j + 1)) := by
        refine apL_snd ?_ HAP.out
        rw [← hd, List.map_append, List.map_take, mkX_snd, List.map_drop, List.take_append_drop]
      have hne := hmix.ne
      rw [hx2] at hne
      have hinj : ∀ k, (vAt l' j).ownBlock = some k → B ≤ k ∧ k < hi := fun k hk => by
        rw [← hx2] at hk
        exact ⟨(HIN.out _ (List.getElem_mem hjl) k hk).1, HU.out _ (List.getElem_mem hjl) k hk⟩
      have hgi : g < hi := HV.out g rfl
      have hfl := HF.out j hlt
      replace hoa : OwnA B 85 3 fdEnc wr (vAt l' j) (rc4 l j) := hoa
      obtain ⟨A', c', hva, ho1⟩ := hoa
      rw [hva] at hcc hne hinj
      replace hcc : cc = [.int .i64 (rc0 l j), .int .i64 (rc1 l j), .int .i64 (rc2 l j), .int .i64 (rc3 l j), .slice A' (rc4 l j).length c', .bool (rc5 l j), .int .i64 (rc6 l j)] := hcc
      rw [hcc] at hxs
      have hs4 := own_stores [.int .i64 k, .int .i64 (k + 1), .int .i64 (k + 1 + 1), .int .i64 (k + 1 + 1 + 1)] (j * 7) hown (by simp; omega)
      rw [hxs] at hs4
      replace hs4 := hs4
      simp only [List.length_cons, List.length_nil, Nat.zero_add, Nat.reduceAdd] at hs4
      rw [row7 xp xq hxp'] at hs4
      have hsg := setCells_grown g [.int .i64 k, .int .i64 (k + 1), .int .i64 (k + 1 + 1), .int .i64 (k + 1 + 1 + 1)] wr (j * 7)
      have hgn : ∀ (a : RcX) (cs : List Value), RcWx B wr a cs → RcWx B (setCells wr g (j * 7) [.int .i64 k, .int .i64 (k + 1), .int .i64 (k + 1 + 1), .int .i64 (k + 1 + 1 + 1)]) a cs := fun a cs => RcWx.row hsg (fun q e => by cases e; exact own_typ hown) a cs
      have ho4 := own_apart_ ho1 hsg (fun q hq e => by cases e; exact typ_ne hown ho1 hq)
      have f4 : (setCells wr g (j * 7) [.int .i64 k, .int .i64 (k + 1), .int .i64 (k + 1 + 1), .int .i64 (k + 1 + 1 + 1)]).cell? ⟨g, j * 7 + 4, none⟩ = some (.slice A' (rc4 l j).length c') := by
        rw [hs4.cellAt _ (by omega)]
        exact at7 xp xq hxp' _ _ _ _ _ _ _
      obtain ⟨v0, f0⟩ := own_cell hown (j := j * 7) (by omega)
      obtain ⟨v1, f1⟩ := own_cell hown (j := j * 7 + 1) (by omega)
      obtain ⟨v2, f2⟩ := own_cell hown (j := j * 7 + 2) (by omega)
      obtain ⟨v3, f3⟩ := own_cell hown (j := j * 7 + 3) (by omega)
      have z0 := hown.frozenAt (j * 7)
      have z1 := hown.frozenAt (j * 7 + 1)
      have z2 := hown.frozenAt (j * 7 + 2)
      have z3 := hown.frozenAt (j * 7 + 3)
      obtain ⟨W4, hW4⟩ : ∃ W, W = setCells wr g (j * 7) [.int .i64 k, .int .i64 (k + 1), .int .i64 (k + 1 + 1), .int .i64 (k + 1 + 1 + 1)] := ⟨_, rfl⟩
      have HP4 := Lib.hid (hcp.mono hgn)
      have HQ4 := Lib.hid (hcq.mono hgn)
      rw [← hW4] at hs4 ho4 f4 HP4 HQ4 hsg
      have HS4 := Lib.hid hs4
      have HO4 := Lib.hid ho4
      have HNE := Lib.hid hne
      have HINJ := Lib.hid hinj
      have HG4 := Lib.hid (hG.trans (Span.of hsg (fun q e => by cases e; exact ⟨hBg, hgi⟩)))
      have HGI := Lib.hid hgi
      have HXP := Lib.hid hxp'
      have HVA := Lib.hid hva
      have HW4 : Hid ((((wr.setCell ⟨g, j * 7, none⟩ (.int .i64 k)).setCell ⟨g, j * 7 + 1, none⟩ (.int .i64 (k + 1))).setCell ⟨g, j * 7 + 2, none⟩ (.int .i64 (k + 1 + 1))).setCell ⟨g, j * 7 + 3, none⟩ (.int .i64 (k + 1 + 1 + 1)) = W4) := Lib.hid hW4.symm
      clear hs4 ho4 hne hinj hgi hxp' hva hW4 hG hsg hgn hxs hcc hcl hcp hcq hx1 hx2 hd hmix hch HCH hxp ho1 hown
      have g4 : ((((wr.setCell ⟨g, j * 7, none⟩ (.int .i64 k)).setCell ⟨g, j * 7 + 1, none⟩ (.int .i64 (k + 1))).setCell ⟨g, j * 7 + 2, none⟩ (.int .i64 (k + 1 + 1))).setCell ⟨g, j * 7 + 3, none⟩ (.int .i64 (k + 1 + 1 + 1))).cell? ⟨g, j * 7 + 4, none⟩ = some (.slice A' (rc4 l j).length c') := by rw [HW4.out]; exact f4
      clear f4
      go_wp2_with fail
      rw [HW4.out]
      clear f0 f1 f2 f3 z0 z1 z2 z3 g4 HW4
      refine (markFieldS_any HO4.out (by omega) (by omega) (by omega)).mono ?_
      rintro e w5 ⟨rfl, ho5, hg5⟩
      have hown5 := own_apart_ HS4.out hg5 (fun q hq e => by cases hq; exact typ_ne HS4.out HO4.out e)
      have hs6 := own_stores [.bool ((k + 1 + 1 + 1 + 1) % 3 == 0), .int .i64 (k + 1 + 1 + 1 + 1 + 3 * ((rc4 l j).length : Int) + 1)] (j * 7 + 5) hown5 (by simp; omega)
      simp only [List.length_cons, List.length_nil, Nat.zero_add, Nat.reduceAdd] at hs6
      rw [row7b xp xq HXP.out] at hs6
      have hsg := setCells_grown g [.bool ((k + 1 + 1 + 1 + 1) % 3 == 0), .int .i64 (k + 1 + 1 + 1 + 1 + 3 * ((rc4 l j).length : Int) + 1)] w5 (j * 7 + 5)
      have hrow : ∀ q, some g = some q → ∃ cs fr, w5.heap[q]? = some (.cells cs 27 fr) := fun q e => by cases e; exact own_typ hown5
      obtain ⟨v5, f5⟩ := own_cell hown5 (j := j * 7 + 5) (by omega)
      obtain ⟨v6, f6⟩ := own_cell hown5 (j := j * 7 + 6) (by omega)
      have z5 := hown5.frozenAt (j * 7 + 5)
      have z6 := hown5.frozenAt (j * 7 + 6)
      have HG5 := Lib.hid ((HG4.out.trans (Span.of hg5 HINJ.out)).trans (Span.of hsg (fun q e => by cases e; exact ⟨hBg, HGI.out⟩)))
      have HP6 := Lib.hid ((HP4.out.mono_mem (fun a ha cs => RcWx.grown hg5 a cs (fun q hq => HNE.out.1 a ha q hq))).mono (fun a cs => RcWx.row hsg hrow a cs))
      have HQ6 := Lib.hid ((HQ4.out.mono_mem (fun a ha cs => RcWx.grown hg5 a cs (fun q hq => HNE.out.2 a ha q hq))).mono (fun a cs => RcWx.row hsg hrow a cs))
      have HX6 := Lib.hid (RcWx.row (B := B) hsg hrow (rcMk1 k (rcAt l j), .slice A' (rc4 l j).length c') (rcCells (rcMk1 k (rcAt l j)) (.slice A' (rc4 l j).length c')) ⟨rfl, A', c', by rw [show rfs (rcMk1 k (rcAt l j)) = fdMk (k + 1 + 1 + 1 + 1) (rc4 l j).length from rfl, fdMk_len], by rw [show rfs (rcMk1 k (rcAt l j)) = fdMk (k + 1 + 1 + 1 + 1) (rc4 l j).length from rfl, fdMk_len]; exact ho5⟩)
      have HS6 := Lib.hid hs6
      clear hs6 hsg hrow hown5 ho5 hg5 HS4 HO4 HP4 HQ4 HG4
      go_wp2
      go_roundw
      case rel =>
        refine ⟨j + 1, by omega, by go_num, by simp only [rcKs, ← HK.out]; congr 1; omega, HG5.out, _, HS6.out, ?_⟩
        have hjm : j < (mkX k0 l l').length := by rw [mkX_len, HN'.out]; exact hlt
        have ej : (mkX k0 l l')[j] = (rcMk1 k (rcAt l j), .slice A' (rc4 l j).length c') := by
          simp only [mkX, List.getElem_map, List.getElem_range]
          rw [← HK.out, HVA.out]
        rw [List.take_succ_eq_append_getElem hjm, List.append_assoc, List.singleton_append, ej]
        exact HP6.out.join rfl HX6.out HQ6.out
      case measure => simp [intOf]; omega
    · obtain rfl : j = l.length := by omega
      go_wp2
      go_ret
      refine ⟨by rw [← HK.out]; rfl, ?_, hG⟩
      have e := HCH.out
      rw [List.take_of_length_le (by rw [mkX_len, HN'.out]; exact Nat.le_refl _), List.drop_eq_nil_of_le (by rw [HN'.out]; exact Nat.le_refl _), List.append_nil] at e
      have hs := mkX_snd k0 l l'
      have hvb : ∀ a ∈ mkX k0 l l', ∀ k, a.2.ownBlock = some k → k < hi := fun a ha k hk => by
        have h1 : a.2 ∈ (mkX k0 l l').map Prod.snd := List.mem_map_of_mem ha
        rw [hs] at h1
        obtain ⟨b, hb, hab⟩ := List.mem_map.1 h1
        exact HU.out b hb k (by rw [hab]; exact hk)
      have hlm : (mkX k0 l l').length = l.length := by rw [mkX_len, HN'.out]
      refine ⟨mkX k0 l l', mkX_fst k0 HN'.out, apL_snd hs.symm HAP.out, ⟨A, c, xs, by rw [hlm], by rw [hlm]; exact hown, e⟩, hvb, HV.out⟩
set_option maxRecDepth 100000 in
set_option maxHeartbeats 4000000 in
theorem heldRecordS_any {A : Option Addr} {l : RcL} {n c : Nat} {k0 : Int} {w : World} (hU : rcR w A (rcMk k0 l)) (hn : l.length ≤ 2097152) (hnn : n = l.length) (hf : FewF 1048576 l) (hk0 : 0 ≤ k0) (hk1 : k0 ≤ 1000) :
    Calls Try.prog 37 #[.slice A n c, .int .i64 k0] w fun e w' => e = .returned (.int .i64 (rcKs k0 l l.length)) ∧ Below w.heap.size w w' := by
  subst hnn
  have HKS := Lib.hid (rcKs_bound k0 hf)
  have HF := Lib.hid hf
  clear hf
  go_enter Try.func37, Try.ntmps37
  go_wp2
  go_loopw [1, 5] (fun kk i wr => ∃ j : Nat, j ≤ l.length ∧ i = .int .i64 j ∧ kk = .int .i64 (rcKs k0 l j) ∧ Below w.heap.size w wr) (fun _ i _ => l.length - (intOf i).toNat)
  case atStart => exact ⟨0, Nat.zero_le _, rfl, rfl, Below.refl _ _⟩
  case round =>
    obtain ⟨j, hj, rfl, rfl, hB⟩ := hrel
    obtain ⟨k, hk⟩ : ∃ k, k = rcKs k0 l j := ⟨_, rfl⟩
    have hkb := HKS.out j hj
    rw [← hk] at hkb ⊢
    have HK := Lib.hid hk
    clear hk
    by_cases hlt : j < l.length
    · obtain ⟨b, off, rfl, hcl⟩ := hU.cells (by rw [rcMk_len]; omega)
      have hcj := hcl j (by rw [rcMk_len]; exact hlt)
      simp only [rc0, rc1, rc2, rc3, rc4, rc5, rc6, rcMk_at k0 hlt, ← HK.out] at hcj
      clear hcl
      obtain ⟨A', c', hfd, c0, c1, c2, c3, c4, c5, c6⟩ := hcj
      have hfl := HF.out j hlt
      obtain ⟨m, hm⟩ : ∃ m, m = (rc4 l j).length := ⟨_, rfl⟩
      replace hfd : fdR w A' (fdMk (k + 1 + 1 + 1 + 1) m) := by rw [hm]; exact hfd
      replace c0 : w.cell? ⟨b, off + j * 7, none⟩ = some (.int .i64 k) := c0
      replace c1 : w.cell? ⟨b, off + j * 7 + 1, none⟩ = some (.int .i64 (k + 1)) := c1
      replace c2 : w.cell? ⟨b, off + j * 7 + 2, none⟩ = some (.int .i64 (k + 1 + 1)) := c2
      replace c3 : w.cell? ⟨b, off + j * 7 + 3, none⟩ = some (.int .i64 (k + 1 + 1 + 1)) := c3
      replace c4 : w.cell? ⟨b, off + j * 7 + 4, none⟩ = some (.slice A' m c') := by
        have e : (rfs (rcMk1 k (rcAt l j))).length = m := by rw [show rfs (rcMk1 k (rcAt l j)) = fdMk (k + 1 + 1 + 1 + 1) (rc4 l j).length from rfl, fdMk_len, hm]
        rw [e] at c4
        exact c4
      replace c5 : w.cell? ⟨b, off + j * 7 + 5, none⟩ = some (.bool ((k + 1 + 1 + 1 + 1) % 3 == 0)) := c5
      replace c6 : w.cell? ⟨b, off + j * 7 + 6, none⟩ = some (.int .i64 (k + 1 + 1 + 1 + 1 + 3 * (m : Int) + 1)) := by rw [hm]; exact c6
      rw [← hm] at hfl
      have HM := Lib.hid hm
      clear hm
      replace c0 := below_cell hB c0
      replace c1 := below_cell hB c1
      replace c2 := below_cell hB c2
      replace c3 := below_cell hB c3
      replace c4 := below_cell hB c4
      replace c5 := below_cell hB c5
      replace c6 := below_cell hB c6
      replace hfd := hfd.below hB
      go_wp2_with fail
      refine (heldFieldS_any hfd (by omega) (by omega) (by omega)).mono ?_
      rintro e w1 ⟨rfl, hb⟩
      replace c5 := below_cell hb c5
      replace c6 := below_cell hb c6
      replace hB := ext_trans hB hb
      clear hb c0 c1 c2 c3 c4 hfd
      go_wp2
      go_roundw
      case rel => exact ⟨j + 1, by omega, by go_num, by simp only [rcKs, ← HK.out, ← HM.out]; congr 1; omega, hB⟩
      case measure => simp [intOf]; omega
    · obtain rfl : j = l.length := by omega
      go_wp2
      go_ret
      exact ⟨by rw [← HK.out]; rfl, hB⟩
end Go.Proofs.Ytdpiaiblpafglaa
