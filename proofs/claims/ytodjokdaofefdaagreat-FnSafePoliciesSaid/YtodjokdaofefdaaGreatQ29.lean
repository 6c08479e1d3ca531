/- Expressions whose parts stand apart, and are nil where there are none: what the reference's copies are. -/
import Derived.Test.YtodjokdaofefdaaGreatQ11
import Derived.Test.YtodjokdaofefdaaGreatQ9
namespace Go.Proofs.YtodjokdaofefdaaGreat
set_option linter.unusedSimpArgs false
set_option linter.unusedVariables false
open Go.RowKit

def exU : Nat → Nat → Nat → World → Value → ExL → Prop
  | 0, _, _, _, v, l => l = [] ∧ v = .slice Option.none 0 0
  | d + 1, lo, hi, w, v, l => ∃ l' : List ExX, l'.map Prod.fst = l ∧ AscX lo hi l' ∧ AvX v l' ∧ (∀ k, v.ownBlock = some k → k < hi) ∧
      OwnG (fun w (a : ExX) cs => ∃ v', cs = exHead a.1 v' ∧ exU d a.2.1 a.2.2 w v' a.1.ps ∧ a.1.s.size ≤ 9223372036854775807) lo 36 4 w v l' ∧ (l = [] → v = .slice Option.none 0 0)
def UxN (d : Nat) (w : World) (a : ExX) (cs : List Value) : Prop := ∃ v', cs = exHead a.1 v' ∧ exU d a.2.1 a.2.2 w v' a.1.ps ∧ a.1.s.size ≤ 9223372036854775807
section
variable {lo hi lo' hi' : Nat} {w w' : World}
theorem exU.keep : ∀ {d lo hi : Nat} {v : Value} {l : ExL}, (∀ k, lo ≤ k → k < hi → w'.heap[k]? = w.heap[k]?) → exU d lo hi w v l → exU d lo hi w' v l
  | 0, _, _, _, _, _, h => h
  | d + 1, lo, hi, v, l, hk, ⟨l', h1, h2, h3, h4, h5, h6⟩ => by
    refine ⟨l', h1, h2, h3, h4, ?_, h6⟩
    have hge := h5.ge
    obtain ⟨A, c, xs, e, ho, hc⟩ := h5
    refine ⟨A, c, xs, e, own_keep ho hk (fun k hv => ?_), hc.mono_mem (fun a ha cs hcs => ?_)⟩
    · rw [← e] at hv; exact ⟨(hge k hv).1, h4 k hv⟩
    · obtain ⟨v', g1, g2, g3⟩ := hcs
      have hb := h2.1 a ha
      exact ⟨v', g1, exU.keep (fun k k1 k2 => hk k (by omega) (by omega)) g2, g3⟩
theorem exU.wide : ∀ {d lo hi : Nat} {v : Value} {l : ExL}, lo' ≤ lo → hi ≤ hi' → exU d lo hi w v l → exU d lo' hi' w v l
  | 0, _, _, _, _, _, _, h => h
  | d + 1, lo, hi, v, l, k1, k2, ⟨l', h1, h2, h3, h4, h5, h6⟩ => ⟨l', h1, h2.wide k1 k2, h3, fun k hk => by have := h4 k hk; omega, h5.lower k1 (fun _ _ h => h), h6⟩
theorem exU.below {d B : Nat} {v : Value} {l : ExL} (h : exU d lo hi w v l) (hB : hi ≤ B) (hb : Below B w w') : exU d lo hi w' v l := h.keep (fun k _ hk => hb.block k (by omega))
theorem exU.slice : ∀ {d lo hi : Nat} {v : Value} {l : ExL}, exU d lo hi w v l → ∃ A c, v = .slice A l.length c
  | 0, _, _, _, _, ⟨h, e⟩ => ⟨Option.none, 0, by rw [h]; exact e⟩
  | d + 1, _, _, _, _, ⟨l', h1, _, _, _, ⟨A, c, xs, e, _⟩, _⟩ => ⟨A, c, by rw [e, ← h1, List.length_map]⟩
end
/-- What an append goes from and to: elements that avoid the row, in blocks below N. -/
def UxA (d : Nat) (v : Value) (N : Nat) (w : World) (a : ExX) (cs : List Value) : Prop := UxN d w a cs ∧ a.2.1 ≤ a.2.2 ∧ a.2.2 ≤ N ∧ ∀ k, v.ownBlock = some k → k < a.2.1 ∨ a.2.2 ≤ k
theorem UxN.one {d : Nat} {w : World} {a : ExX} {cs : List Value} (h : UxN d w a cs) : ∀ u ∈ cs, u.oneCell' = true := by
  obtain ⟨v', rfl, hT, _⟩ := h
  obtain ⟨A, c, rfl⟩ := hT.slice
  intro u hu
  simp [exHead] at hu
  rcases hu with rfl | rfl | rfl | rfl <;> rfl
theorem UxN.keep {d : Nat} {w w' : World} {a : ExX} {cs : List Value} (h : UxN d w a cs) (hk : ∀ k, a.2.1 ≤ k → k < a.2.2 → w'.heap[k]? = w.heap[k]?) : UxN d w' a cs := by
  obtain ⟨v', h1, h2, h3⟩ := h
  exact ⟨v', h1, h2.keep hk, h3⟩
theorem UxA.row {d N : Nat} {v : Value} {w w' : World} {a : ExX} {cs : List Value} (h : UxA d v N w a cs) (hN : N ≤ w.heap.size) (hg : w.grownBy w' v.ownBlock) : UxA d v N w' a cs := by
  obtain ⟨h1, h2, h3, h4⟩ := h
  refine ⟨h1.keep (fun k k1 k2 => hg.block k (by omega) (fun e => ?_)), h2, h3, h4⟩
  have := h4 k e.symm
  omega
theorem UxA.below {d N : Nat} {v : Value} {w w' : World} {a : ExX} {cs : List Value} (h : UxA d v N w a cs) (hN : N ≤ w.heap.size) (hb : Below w.heap.size w w') : UxA d v N w' a cs := by
  obtain ⟨h1, h2, h3, h4⟩ := h
  exact ⟨h1.keep (fun k k1 k2 => hb.block k (by omega)), h2, h3, h4⟩
/-- A row of one's own whose elements stand apart from it and from one another, from lo on, below N. -/
def UxO (d lo N : Nat) (w : World) (v : Value) (l' : List ExX) : Prop := AscX lo N l' ∧ N ≤ w.heap.size ∧ OwnG (UxA d v N) lo 36 4 w v l'
theorem UxO.below {d lo N : Nat} {w w' : World} {v : Value} {l' : List ExX} (h : UxO d lo N w v l') (hb : Below w.heap.size w w') : UxO d lo N w' v l' :=
  ⟨h.1, Nat.le_trans h.2.1 hb.size, h.2.2.below hb (fun _ _ g => g.below h.2.1 hb)⟩
theorem UxO.nil {d lo N : Nat} {w : World} (hN : N ≤ w.heap.size) : UxO d lo N w (.slice Option.none 0 0) [] := ⟨AscX.nil, hN, OwnG.nil⟩
theorem UxO.t {d lo N : Nat} {w : World} {v : Value} {l' : List ExX} (h : UxO d lo N w v l') (h0 : l' = [] → v = .slice Option.none 0 0) : exU (d + 1) lo w.heap.size w v (l'.map Prod.fst) := by
  refine ⟨l', rfl, h.1.wide (Nat.le_refl _) h.2.1, ?_, fun k hk => (h.2.2.ge k hk).2, h.2.2.lower (Nat.le_refl _) (fun _ _ g => g.1), fun e => h0 (List.map_eq_nil_iff.1 e)⟩
  obtain ⟨A, c, xs, e, ho, hc⟩ := h.2.2
  clear h ho e h0
  induction l' generalizing xs with
  | nil => intro a ha; simp at ha
  | cons b l' ih =>
    obtain ⟨cc, r, rfl, h1, h2, h3⟩ := hc
    intro a ha
    rcases List.mem_cons.1 ha with rfl | ha
    · exact h2.2.2.2
    · exact ih r h3 a ha
/-- Behind an append of one that is new. -/
theorem UxO.add {d lo N : Nat} {w w' : World} {v v' : Value} {l' : List ExX} {t : Ex} {a b : Nat} (hasc : AscX lo N l') (hN : N ≤ a) (hab : a ≤ b) (hlo : lo ≤ a) (hb : b ≤ w.heap.size) (hw : w.heap.size ≤ w'.heap.size)
    (ho : OwnG (UxA d v b) lo 36 4 w' v' (l' ++ [(t, a, b)])) (hv : v'.ownBlock = v.ownBlock ∨ v'.ownBlock = some w.heap.size) : UxO d lo b w' v' (l' ++ [(t, a, b)]) := by
  refine ⟨hasc.snoc hN hab hlo (Nat.le_refl _), by omega, ho.lower (Nat.le_refl _) (fun x cs g => ?_)⟩
  obtain ⟨g1, g2, g3, g4⟩ := g
  refine ⟨g1, g2, g3, fun k hk => ?_⟩
  rcases hv with e | e
  · rw [e] at hk; exact g4 k hk
  · rw [e] at hk; cases hk; exact .inr (by omega)
end Go.Proofs.YtodjokdaofefdaaGreat
/- Copies of expressions, by the reference: parts are nil where there are none. -/
namespace Go.Proofs.YtodjokdaofefdaaGreat
set_option linter.unusedSimpArgs false
set_option linter.unusedVariables false
open Go.RowKit

/-- The box of a copy that grows. -/
def CuB (g : Nat) (r : Ex) (w : World) (v : Value) : Prop := w.heap[g]? = some (.cells #[.int .i64 r.k, .int .i64 r.n, .string r.s, v] 36 (0, 0))
def CuH (d g : Nat) (r : Ex) (W : World) (k : Nat) (w : World) : Prop := ∃ A c l' N, CuB g r w (.slice A k c) ∧ l'.map Prod.fst = r.ps.take k ∧ UxO d (g + 1) N w (.slice A k c) l' ∧ Below g W w ∧ (k = 0 → A = Option.none ∧ c = 0)
def CuA (d g : Nat) (r : Ex) (W : World) (k : Nat) (w : World) (v : Value) : Prop := ∃ A c u l' N, v = .slice A k c ∧ CuB g r w u ∧ l'.map Prod.fst = r.ps.take k ∧ UxO d (g + 1) N w (.slice A k c) l' ∧ Below g W w
/-- A copy. -/
def CvV (d lo : Nat) (t : Ex) (w : World) (v : Value) : Prop := ∃ A c a b, v = .agg #[.int .i64 t.k, .int .i64 t.n, .string t.s, .slice A t.ps.length c] ∧ (lo ≤ a ∧ a ≤ b ∧ b ≤ w.heap.size) ∧ exU d a b w (.slice A t.ps.length c) t.ps
def CvR (d lo : Nat) (t : Ex) (w : World) (v : Value) : Prop := ∃ g A c a b, v = .slice (some ⟨g, 0, none⟩) 1 1 ∧ w.heap[g]? = some (.cells #[.int .i64 t.k, .int .i64 t.n, .string t.s, .slice A t.ps.length c] 36 (0, 0)) ∧ (lo ≤ a ∧ a ≤ b ∧ b ≤ w.heap.size) ∧ exU d a b w (.slice A t.ps.length c) t.ps
section
variable {d g k lo : Nat} {r t : Ex} {W w w' : World} {v : Value}
theorem CuH.below (h : CuH d g r W k w) (hb : Below w.heap.size w w') : CuH d g r W k w' := by
  obtain ⟨A, c, l', N, h1, h2, h3, h4, h5⟩ := h
  have hg := (Array.getElem?_eq_some_iff.1 h1).1
  exact ⟨A, c, l', N, block_below h1 hb, h2, h3.below hb, h4.trans (hb.mono (by omega)), h5⟩
theorem CuA.below (h : CuA d g r W k w v) (hb : Below w.heap.size w w') : CuA d g r W k w' v := by
  obtain ⟨A, c, u, l', N, h0, h1, h2, h3, h4⟩ := h
  have hg := (Array.getElem?_eq_some_iff.1 h1).1
  exact ⟨A, c, u, l', N, h0, block_below h1 hb, h2, h3.below hb, h4.trans (hb.mono (by omega))⟩
theorem CvV.below (h : CvV d lo t w v) (hb : Below w.heap.size w w') : CvV d lo t w' v := by
  obtain ⟨A, c, a, b, h0, h1, h2⟩ := h
  exact ⟨A, c, a, b, h0, ⟨h1.1, h1.2.1, Nat.le_trans h1.2.2 hb.size⟩, h2.below h1.2.2 hb⟩
theorem CvR.below (h : CvR d lo t w v) (hb : Below w.heap.size w w') : CvR d lo t w' v := by
  obtain ⟨g, A, c, a, b, h0, hg, h1, h2⟩ := h
  exact ⟨g, A, c, a, b, h0, block_below hg hb, ⟨h1.1, h1.2.1, Nat.le_trans h1.2.2 hb.size⟩, h2.below h1.2.2 hb⟩
theorem UxO.grown {N : Nat} {l' : List ExX} {row : Option Nat} (h : UxO d lo N w v l') (hg : w.grownBy w' row) (hr : ∀ k, row = some k → k < lo) : UxO d lo N w' v l' := by
  obtain ⟨h1, h2, h3⟩ := h
  have hge := h3.ge
  obtain ⟨A, c, xs, e, ho, hc⟩ := h3
  refine ⟨h1, Nat.le_trans h2 hg.size, A, c, xs, e, own_apart_ ho hg (fun k hk e2 => ?_), hc.mono_mem (fun a ha cs hcs => ?_)⟩
  · rw [← e] at hk
    have := (hge k hk).1
    have := hr k e2
    omega
  · obtain ⟨g1, g2, g3, g4⟩ := hcs
    have hb := h1.1 a ha
    exact ⟨g1.keep (fun k k1 k2 => hg.block k (by omega) (fun e2 => by have := hr k e2.symm; omega)), g2, g3, g4⟩
end
def CuQ (d : Nat) : Prop := ∀ (A : Option Addr) (r : Ex) (c : Nat) (w : World), exW d w A r.ps → r.s.size ≤ 9223372036854775807 → (∀ m, cntR m r ≤ 1048576) →
  Calls Tryz.prog 37 #[.agg #[.int .i64 r.k, .int .i64 r.n, .string r.s, .slice A r.ps.length c]] w fun e w' => ∃ A' c', e = .returned (.agg #[.int .i64 r.k, .int .i64 r.n, .string r.s, .slice A' r.ps.length c']) ∧ exU d w.heap.size w'.heap.size w' (.slice A' r.ps.length c') r.ps ∧ Below w.heap.size w w'
set_option maxRecDepth 100000 in
set_option maxHeartbeats 8000000 in
theorem cuQ_of {d : Nat} (hQ : ∀ m, d = m + 1 → CuQ m) : CuQ d := by
  intro A r c w hU hs hn
  have hlen : r.ps.length ≤ 1048576 := by have := hn 1; rw [cntR] at this; omega
  have HQ := Lib.hid hQ
  have HN := Lib.hid hn
  have HS := Lib.hid hs
  clear hQ hn hs
  obtain ⟨gx, hgx⟩ : ∃ g, g = w.heap.size := ⟨_, rfl⟩
  obtain ⟨g, hg⟩ : ∃ g, g = w.heap.size + 1 + 1 := ⟨_, rfl⟩
  obtain ⟨W, hW⟩ : ∃ W, W = ((w.alloc (.cells #[.int .i64 r.k, .int .i64 r.n, .string r.s, .slice A r.ps.length c] 36)).alloc (.cells #[.int .i64 0, .int .i64 0, .string ⟨#[]⟩, .slice Option.none 0 0] 36)).alloc (.cells #[.int .i64 r.k, .int .i64 r.n, .string r.s, .slice Option.none 0 0] 36) := ⟨_, rfl⟩
  have hBW : Below w.heap.size w W := by rw [hW]; (repeat (first | exact Below.refl _ _ | refine ext_alloc ?_ _ | refine Below.setCell ?_ (by simp) _))
  have hWs : W.heap.size = w.heap.size + 3 := by rw [hW]; simp
  have hWg : CuB g r W (.slice Option.none 0 0) := by rw [CuB, hW, hg]; exact heap_alloc_at (by simp)
  have b0 : (w.alloc (.cells #[.int .i64 r.k, .int .i64 r.n, .string r.s, .slice A r.ps.length c] 36)).cell? ⟨w.heap.size, 3, none⟩ = some (.slice A r.ps.length c) := box_cell w _ _ 3 _ rfl
  have b3 : W.cell? ⟨gx, 3, none⟩ = some (.slice A r.ps.length c) := by rw [hW, hgx]; exact below_cell (below_alloc _ _) (below_cell (below_alloc _ _) b0)
  clear b0
  have hg2 : W.heap[w.heap.size + 1]? = some (.cells #[.int .i64 0, .int .i64 0, .string ⟨#[]⟩, .slice Option.none 0 0] 36 (0, 0)) := by rw [hW]; exact block_below (heap_alloc_at (by simp)) (below_alloc _ _)
  have hUW := hU.below hBW
  have HU0 := Lib.hid hU
  have HG2 := Lib.hid hg2
  have HW := Lib.hid hW
  have HGX := Lib.hid hgx
  have HG := Lib.hid hg
  have HBW := Lib.hid hBW
  have HB3 := Lib.hid b3
  have HWG := Lib.hid hWg
  have hsz : g + 1 = W.heap.size := by rw [hWs, hg]
  have hgg : gx < g := by rw [hgx, hg]; omega
  have HSZ := Lib.hid hsz
  clear hW hgx hg hBW hU b3 hWg hWs hsz hg2
  go_enter Tryz.func37, Tryz.ntmps37
  go_wp2_with fail
  rw [← HW.out, ← HG.out, ← HGX.out]
  go_loopw [4] (fun iv wr => ∃ k : Nat, k ≤ r.ps.length ∧ iv = .int .i64 k ∧ CuH (d - 1) g r W k wr) (fun iv _ => r.ps.length - (intOf iv).toNat)
  case atStart => exact ⟨0, Nat.zero_le _, rfl, Option.none, 0, [], W.heap.size, HWG.out, by simp, UxO.nil (Nat.le_refl _), Below.refl _ _, fun _ => ⟨rfl, rfl⟩⟩
  case round =>
    obtain ⟨k, hk, rfl, Ak, ck, l', N, hbx, hmap, hO, hB, hnil⟩ := hrel
    have HNIL := Lib.hid hnil
    clear hnil
    have hgw := (Array.getElem?_eq_some_iff.1 hbx).1
    have x3 : wr.cell? ⟨g, 3, none⟩ = some (.slice Ak k ck) := (cell_of_row wr g 3 _ _ _ hbx).trans rfl
    have b3 : wr.cell? ⟨gx, 3, none⟩ = some (.slice A r.ps.length c) := (hB.cell (p := ⟨gx, 3, none⟩) hgg).trans HB3.out
    have hws := hB.size
    have HBX := Lib.hid hbx
    have HMAP := Lib.hid hmap
    have HO := Lib.hid hO
    have HBG := Lib.hid hB
    clear hbx hmap hO
    by_cases hlt : k < r.ps.length
    · have hd : ∃ m, d = m + 1 := by
        cases d with
        | zero => have := exS.zero hUW; rw [this] at hlt; simp at hlt
        | succ m => exact ⟨m, rfl⟩
      obtain ⟨m, hm⟩ := hd
      subst hm
      have HQ1 := Lib.hid (HQ.out m rfl)
      have hBr : Below w.heap.size w wr := HBW.out.trans (hB.mono (by have := HGX.out; omega))
      have hUr : exW (m + 1) wr A r.ps := (exS.below HU0.out (Nat.le_refl _) hBr).wide (Nat.le_refl _) hBr.size
      obtain ⟨b, off, rfl, hc⟩ := hUr.cells (by omega)
      obtain ⟨A1, c1, hfd, hs1, p0, p1, p2, p3⟩ := hc k hlt
      have HCN : Hid (∀ q, cntR q (exAt r.ps k) ≤ 1048576) := Lib.hid (fun q => by rw [exAt_eq hlt]; exact Nat.le_trans (cnt_mem (List.getElem_mem hlt)) (HN.out (q + 1)))
      have HS1 := Lib.hid hs1
      have HFD := Lib.hid hfd
      have HML : Hid (l'.length = k) := Lib.hid (by rw [← List.length_map (f := Prod.fst), HMAP.out, List.length_take]; omega)
      clear hc hs1 hfd hB hBr hUr
      go_wp2_with fail
      refine wp_region_draws2K (some 9) (some 11) (fun wz => Below wr.heap.size wr wz) (fun wz => CuH m g r W (k + 1) wz) (fun i wz vz => match i with | 0 => vz = .pointer (some ⟨g, 3, Option.none⟩) | 1 => vz = .slice Ak k ck | 2 => vz = .pointer (some ⟨gx, 3, Option.none⟩) | 3 => vz = .slice (some ⟨b, off, none⟩) r.ps.length c | 4 => vz = .int .i64 k | 5 => vz = .pointer (some ⟨b, off + k * 4, Option.none⟩) | 6 => vz = .agg #[.int .i64 (exAt r.ps k).k, .int .i64 (exAt r.ps k).n, .string (exAt r.ps k).s, .slice A1 (exAt r.ps k).ps.length c1] | 7 => CvV m wr.heap.size (exAt r.ps k) wz vz | 8 => CvR m wr.heap.size (exAt r.ps k) wz vz | 9 => CuA m g r W (k + 1) wz vz | 10 => vz = .pointer (some ⟨g, 3, Option.none⟩) | _ => True) (fun _ _ => True) (fun i w w' => (i = 9 ∨ i = 11) ∨ Below w.heap.size w w') (fun j => match j with | 7 => some 9 | 8 => some 9 | 9 => some 11 | _ => Option.none) (by kernel_rfl) (by kernel_rfl) (by kernel_rfl) ?stab5 ?stabG5 ?stabH5 trivial (ext_drew (Below.refl _ _)) ?all5 ?fin5
      case stab5 =>
        intro i j wa wb v hR hk hne hd h3 h2 hT
        match j, hk, hne, hd, h3, h2, hT with
        | 0, hk, hne, hd, h3, h2, hT => exact (hT)
        | 1, hk, hne, hd, h3, h2, hT => exact (hT)
        | 2, hk, hne, hd, h3, h2, hT => exact (hT)
        | 3, hk, hne, hd, h3, h2, hT => exact (hT)
        | 4, hk, hne, hd, h3, h2, hT => exact (hT)
        | 5, hk, hne, hd, h3, h2, hT => exact (hT)
        | 6, hk, hne, hd, h3, h2, hT => exact (hT)
        | 7, hk, hne, hd, h3, h2, hT => exact (CvV.below hT (hR.resolve_left (fun e => e.elim (fun e => hk (by subst e; rfl)) (fun e => by subst e; exact Bool.noConfusion ((h3 9 rfl).symm.trans (show depB _ 11 9 = true from by kernel_rfl))))))
        | 8, hk, hne, hd, h3, h2, hT => exact (CvR.below hT (hR.resolve_left (fun e => e.elim (fun e => hk (by subst e; rfl)) (fun e => by subst e; exact Bool.noConfusion ((h3 9 rfl).symm.trans (show depB _ 11 9 = true from by kernel_rfl))))))
        | 9, hk, hne, hd, h3, h2, hT => exact (CuA.below hT (hR.resolve_left (fun e => e.elim (fun e => hne (by rw [e])) (fun e => hk (by subst e; rfl)))))
        | 10, hk, hne, hd, h3, h2, hT => exact (hT)
        | n + 11, _, _, _, _, _, _ => trivial
      case stabG5 => exact fun i wa wb hR hne hd hG => ext_trans hG (hR.resolve_left (fun e => e.elim (fun e => hne (by rw [e])) (fun e => by subst e; exact Bool.noConfusion ((hd 9 rfl).symm.trans (show depB _ 11 9 = true from by kernel_rfl)))))
      case stabH5 => exact fun i wa wb hR hne hd h => (by have hb := hR.resolve_left (fun e => e.elim (fun e => by subst e; exact Bool.noConfusion ((hd 11 rfl).symm.trans (show depB _ 11 9 = true from by kernel_rfl))) (fun e => hne (by rw [e]))); exact CuH.below h hb)
      case all5 =>
        refine RAllK.cons rfl ?_ (RAllK.cons rfl ?_ (RAllK.cons rfl ?_ (RAllK.cons rfl ?_ (RAllK.cons rfl ?_ (RAllK.cons rfl ?_ (RAllK.cons rfl ?_ (RAllK.cons rfl ?_ (RAllK.cons rfl ?_ (RAllK.cons rfl ?_ (RAllK.cons rfl ?_ (RAllK.cons rfl ?_ (RAllK.none_))))))))))))
        · intro a kq_ wa K Q _ _ hp hK0
          have hI : Below wr.heap.size wr wa := hp.pre 9 (fun c hc => by cases hc; kernel_rfl)
          have hK := fun v w' h1 h2 (_ : Below wr.heap.size wr w') => hK0 v w' h1 (.inr h2) trivial (fun e => by cases e)
          have e3 := tmp_of (show a.eval (.tmp 3) = .pointer (some ⟨g, 0, none⟩) from hp.keep 3 (by kernel_rfl))
          go_simp
          exact hK _ _ rfl (Below.refl _ _) hI
        · intro a kq_ wa K Q _ _ hp hK0
          have hI : Below wr.heap.size wr wa := hp.pre 9 (fun c hc => by cases hc; kernel_rfl)
          have hK := fun v w' h1 h2 (_ : Below wr.heap.size wr w') => hK0 v w' h1 (.inr h2) trivial (fun e => by cases e)
          have e19 := tmp_of (show a.eval (.tmp 19) = .pointer (some ⟨g, 3, Option.none⟩) from hp.dep 0 19 (by kernel_rfl))
          have x3_ := below_cell hI x3
          go_simp
          exact hK _ _ rfl (Below.refl _ _) hI
        · intro a kq_ wa K Q _ _ hp hK0
          have hI : Below wr.heap.size wr wa := hp.pre 9 (fun c hc => by cases hc; kernel_rfl)
          have hK := fun v w' h1 h2 (_ : Below wr.heap.size wr w') => hK0 v w' h1 (.inr h2) trivial (fun e => by cases e)
          have e1 := tmp_of (show a.eval (.tmp 1) = .pointer (some ⟨gx, 0, none⟩) from hp.keep 1 (by kernel_rfl))
          go_simp
          exact hK _ _ rfl (Below.refl _ _) hI
        · intro a kq_ wa K Q _ _ hp hK0
          have hI : Below wr.heap.size wr wa := hp.pre 9 (fun c hc => by cases hc; kernel_rfl)
          have hK := fun v w' h1 h2 (_ : Below wr.heap.size wr w') => hK0 v w' h1 (.inr h2) trivial (fun e => by cases e)
          have e21 := tmp_of (show a.eval (.tmp 21) = .pointer (some ⟨gx, 3, Option.none⟩) from hp.dep 2 21 (by kernel_rfl))
          have b3_ := below_cell hI b3
          go_simp
          exact hK _ _ rfl (Below.refl _ _) hI
        · intro a kq_ wa K Q _ _ hp hK0
          have hI : Below wr.heap.size wr wa := hp.pre 9 (fun c hc => by cases hc; kernel_rfl)
          have hK := fun v w' h1 h2 (_ : Below wr.heap.size wr w') => hK0 v w' h1 (.inr h2) trivial (fun e => by cases e)
          exact op_move _ (.inl rfl) (hK _ _ (hp.keep 4 (by kernel_rfl)) (Below.refl _ _) hI)
        · intro a kq_ wa K Q _ _ hp hK0
          have hI : Below wr.heap.size wr wa := hp.pre 9 (fun c hc => by cases hc; kernel_rfl)
          have hK := fun v w' h1 h2 (_ : Below wr.heap.size wr w') => hK0 v w' h1 (.inr h2) trivial (fun e => by cases e)
          have e22 := tmp_of (show a.eval (.tmp 22) = .slice (some ⟨b, off, none⟩) r.ps.length c from hp.dep 3 22 (by kernel_rfl))
          have e23 := tmp_of (show a.eval (.tmp 23) = .int .i64 k from hp.dep 4 23 (by kernel_rfl))
          go_simp
          exact hK _ _ rfl (Below.refl _ _) hI
        · intro a kq_ wa K Q _ _ hp hK0
          have hI : Below wr.heap.size wr wa := hp.pre 9 (fun c hc => by cases hc; kernel_rfl)
          have hK := fun v w' h1 h2 (_ : Below wr.heap.size wr w') => hK0 v w' h1 (.inr h2) trivial (fun e => by cases e)
          have e24 := tmp_of (show a.eval (.tmp 24) = .pointer (some ⟨b, off + k * 4, Option.none⟩) from hp.dep 5 24 (by kernel_rfl))
          have p0_ := below_cell hI p0
          have p1_ := below_cell hI p1
          have p2_ := below_cell hI p2
          have p3_ := below_cell hI p3
          go_simp
          exact hK _ _ rfl (Below.refl _ _) hI
        · intro a kq_ wa K Q _ _ hp hK0
          have hI : Below wr.heap.size wr wa := hp.pre 9 (fun c hc => by cases hc; kernel_rfl)
          have hK := fun v w' h1 h2 (_ : Below wr.heap.size wr w') => hK0 v w' h1 (.inr h2) trivial (fun e => by cases e)
          have e25 := tmp_of (show a.eval (.tmp 25) = .agg #[.int .i64 (exAt r.ps k).k, .int .i64 (exAt r.ps k).n, .string (exAt r.ps k).s, .slice A1 (exAt r.ps k).ps.length c1] from hp.dep 6 25 (by kernel_rfl))
          go_simp
          refine (HQ1.out _ _ _ _ (HFD.out.below hI) HS1.out HCN.out).mono ?_
          rintro e wb ⟨A8, c8, rfl, h8, hb⟩
          exact hK _ _ ⟨A8, c8, _, _, rfl, ⟨hI.size, hb.size, Nat.le_refl _⟩, h8⟩ hb (ext_trans hI hb)
        · intro a kq_ wa K Q _ _ hp hK0
          have hI : Below wr.heap.size wr wa := hp.pre 9 (fun c hc => by cases hc; kernel_rfl)
          have hK := fun v w' h1 h2 (_ : Below wr.heap.size wr w') => hK0 v w' h1 (.inr h2) trivial (fun e => by cases e)
          have t26 : CvV m wr.heap.size (exAt r.ps k) wa (a.eval (.tmp 26)) := hp.dep 7 26 (by kernel_rfl)
          obtain ⟨A8, c8, a8, b8, e26, h1, h2⟩ := t26
          replace e26 := tmp_of e26
          go_simp
          exact hK _ _ ⟨_, A8, c8, a8, b8, rfl, heap_alloc_new _ _, ⟨h1.1, h1.2.1, by simp; omega⟩, h2.below h1.2.2 (below_alloc _ _)⟩ (below_alloc _ _) (ext_alloc hI _)
        · intro a kq_ wa K Q _ _ hp hK0
          have hI : Below wr.heap.size wr wa := hp.pre 9 (fun c hc => by cases hc; kernel_rfl)
          have hA := fun v w' h => hK0 v w' h (.inl (.inl rfl)) trivial (fun e => by cases e)
          have e20 := tmp_of (show a.eval (.tmp 20) = .slice Ak k ck from hp.dep 1 20 (by kernel_rfl))
          have t27 : CvR m wr.heap.size (exAt r.ps k) wa (a.eval (.tmp 27)) := hp.dep 8 27 (by kernel_rfl)
          obtain ⟨g8, A8, c8, a8, b8, e27, hg8, h1, h2⟩ := t27
          have hO := HO.out.below hI
          have hge := HO.out.2.2.ge
          have hN := HO.out.2.1
          refine op_appendG (R := UxA m (.slice Ak k ck) b8) (l := l') (l2 := [(exAt r.ps k, a8, b8)]) (.tmp 20) (.tmp 27) 34 36 _ 4 56 rfl Tryz.underlying34 Tryz.infoExpr rfl (by decide) (fun a cs h => h.1.one) (hp.dep 1 20 (by kernel_rfl)) (hO.2.2.lower (Nat.le_refl _) (fun x cs q => ⟨q.1, q.2.1, by have := q.2.2.1; omega, q.2.2.2⟩)) e27 (rd_blockG hg8 rfl ⟨⟨_, rfl, h2, HS1.out⟩, h1.2.1, Nat.le_refl _, fun q hq => by have := (hge q hq).2; have := h1.1; exact .inl (by show q < a8; omega)⟩) (fun w' hg a cs h => h.row h1.2.2 hg) (by have := HML.out; simp; omega) (by have := HML.out; simp; omega) (by have := hI.size; omega) ?_
          intro v' wb ho' hb' hgr hv
          obtain ⟨A7, c7, rfl⟩ : ∃ A7 c7, v' = .slice A7 (k + 1) c7 := by obtain ⟨A7, c7, _, e7, _⟩ := ho'; exact ⟨A7, c7, by rw [e7]; simp [HML.out]⟩
          have hwa := hI.size
          exact hA _ _ ⟨A7, c7, .slice Ak k ck, l' ++ [(exAt r.ps k, a8, b8)], b8, rfl, (hgr.block g (by omega) (fun e => by have := (hge g e.symm).1; omega)).trans (block_below HBX.out hI), by rw [List.map_append, HMAP.out, List.take_succ_eq_append_getElem hlt, ← exAt_eq hlt]; rfl, UxO.add HO.out.1 (Nat.le_trans hN h1.1) h1.2.1 (by have := h1.1; omega) h1.2.2 hgr.size ho' hv, (HBG.out.trans (hI.mono (by omega))).trans (hb'.mono (by omega))⟩
        · intro a kq_ wa K Q _ _ hp hK0
          have hK := fun v w' h1 (h2 : Below wa.heap.size wa w') => hK0 v w' h1 (.inr h2) trivial (fun e => by cases e)
          have e3 := tmp_of (show a.eval (.tmp 3) = .pointer (some ⟨g, 0, none⟩) from hp.keep 3 (by kernel_rfl))
          go_simp
          exact hK _ _ rfl (Below.refl _ _)
        · intro a kq_ wa K Q _ _ hp hK0
          have hS := fun v w' h => hK0 v w' trivial (.inl (.inr rfl)) trivial (fun _ => h)
          have t28 : CuA m g r W (k + 1) wa (a.eval (.tmp 28)) := hp.dep 9 28 (by kernel_rfl)
          have e29 := tmp_of (show a.eval (.tmp 29) = .pointer (some ⟨g, 3, Option.none⟩) from hp.dep 10 29 (by kernel_rfl))
          obtain ⟨A9, c9, u9, l9, N9, e28, hb9, hm9, ho9, hB9⟩ := t28
          replace e28 := tmp_of e28
          have cw : wa.cell? ⟨g, 3, none⟩ = some u9 := (cell_of_row wa g 3 _ _ _ hb9).trans rfl
          have zw : wa.frozen? ⟨g, 3, none⟩ = false := frozen_of_row wa g 3 _ _ hb9
          go_simp
          exact hS (.tuple #[]) _ ⟨A9, c9, l9, N9, setCells_atG [.slice A9 (k + 1) c9] 3 hb9 (by simp), hm9, UxO.grown ho9 (setCells_grown g [.slice A9 (k + 1) c9] wa 3) (fun q e => by cases e; omega), setCells_below (Nat.le_refl _) [.slice A9 (k + 1) c9] 3 hB9, fun e => by omega⟩
      case fin5 =>
        intro f w9 hT _ hH
        have hH := hH 11 rfl (by decide)
        have hr6 : (f 10) = .pointer (some ⟨g, 3, Option.none⟩) := hT 10 (by decide) rfl rfl
        clear hT
        clear hr6
        simp only [putAll]
        go_simp
        go_wp2
        go_roundw
        case rel => exact ⟨k + 1, by omega, by go_num, hH⟩
        case measure => simp [intOf]; omega
    · obtain rfl : k = r.ps.length := by omega
      have x0 : wr.cell? ⟨g, 0, none⟩ = some (.int .i64 r.k) := (cell_of_row wr g 0 _ _ _ HBX.out).trans rfl
      have x1 : wr.cell? ⟨g, 1, none⟩ = some (.int .i64 r.n) := (cell_of_row wr g 1 _ _ _ HBX.out).trans rfl
      have x2 : wr.cell? ⟨g, 2, none⟩ = some (.string r.s) := (cell_of_row wr g 2 _ _ _ HBX.out).trans rfl
      have hr2 : wr.heap[gx + 1]? = some (.cells #[.int .i64 0, .int .i64 0, .string ⟨#[]⟩, .slice Option.none 0 0] 36 (0, 0)) := by rw [HGX.out]; exact (hB.block _ (by have := HG.out; omega)).trans HG2.out
      have y0 : wr.cell? ⟨gx + 1, 0, none⟩ = some _ := (cell_of_row wr (gx + 1) 0 _ _ _ hr2).trans rfl
      have y1 : wr.cell? ⟨gx + 1, 1, none⟩ = some _ := (cell_of_row wr (gx + 1) 1 _ _ _ hr2).trans rfl
      have y2 : wr.cell? ⟨gx + 1, 2, none⟩ = some _ := (cell_of_row wr (gx + 1) 2 _ _ _ hr2).trans rfl
      have y3 : wr.cell? ⟨gx + 1, 3, none⟩ = some _ := (cell_of_row wr (gx + 1) 3 _ _ _ hr2).trans rfl
      have z0 := frozen_of_row wr (gx + 1) 0 _ _ hr2
      have z1 := frozen_of_row wr (gx + 1) 1 _ _ hr2
      have z2 := frozen_of_row wr (gx + 1) 2 _ _ hr2
      have z3 := frozen_of_row wr (gx + 1) 3 _ _ hr2
      clear hr2 hUW
      have HU1 := HU0.out
      have hm := HMAP.out
      rw [List.take_length] at hm
      have hgr := setCells_grown (gx + 1) [.int .i64 r.k, .int .i64 r.n, .string r.s, .slice Ak r.ps.length ck] wr 0
      have HT : Hid (exU d w.heap.size (setCells wr (gx + 1) 0 [.int .i64 r.k, .int .i64 r.n, .string r.s, .slice Ak r.ps.length ck]).heap.size (setCells wr (gx + 1) 0 [.int .i64 r.k, .int .i64 r.n, .string r.s, .slice Ak r.ps.length ck]) (.slice Ak r.ps.length ck) r.ps) := Lib.hid (by
        cases d with
        | zero =>
          have h0 := exS.zero HU1
          obtain ⟨hA, hc⟩ := HNIL.out (by rw [h0]; rfl)
          exact ⟨h0, by rw [hA, hc, h0]; rfl⟩
        | succ m =>
          have h1 := (HO.out.grown hgr (fun q e => by cases e; omega)).t (fun e => by
            have hz : r.ps.length = 0 := by rw [← hm, e]; rfl
            obtain ⟨hA, hc⟩ := HNIL.out hz
            rw [hA, hc, hz])
          rw [hm] at h1
          exact h1.wide (by have := HGX.out; omega) (Nat.le_refl _))
      have HBF : Hid (Below w.heap.size w (setCells wr (gx + 1) 0 [.int .i64 r.k, .int .i64 r.n, .string r.s, .slice Ak r.ps.length ck])) := Lib.hid (setCells_below (by have := HGX.out; omega) _ 0 (HBW.out.trans (HBG.out.mono (by have := HGX.out; omega))))
      clear hgr hm HU1
      go_wp2
      refine bodyPost_ret (v := .agg #[.int .i64 r.k, .int .i64 r.n, .string r.s, .slice Ak r.ps.length ck]) (by simp [results, go_sem, y0, y1, y2, y3]) rfl ⟨_, _, rfl, HT.out, HBF.out⟩
theorem cuQ_all : ∀ d, CuQ d
  | 0 => cuQ_of (fun m h => by cases h)
  | d + 1 => cuQ_of (fun m h => by cases h; exact cuQ_all d)
end Go.Proofs.YtodjokdaofefdaaGreat
/- Guards that are added, by the reference: the whole, and in what rows it stands. -/
namespace Go.Proofs.YtodjokdaofefdaaGreat
set_option linter.unusedSimpArgs false
set_option linter.unusedVariables false
open Go.RowKit

/-- Rows of expressions, as they are laid: nil where there are none. -/
def exY (P : Nat → Prop) : Nat → World → Value → ExL → Prop
  | 0, _, v, l => l = [] ∧ v = .slice Option.none 0 0
  | d + 1, w, v, l => (l = [] → v = .slice Option.none 0 0) ∧ (0 < l.length → ∃ (g q : Nat) (cs : Array Value), v = .slice (some ⟨g, 0, Option.none⟩) l.length q ∧ (l.length ≤ q ∧ q ≤ 9223372036854775807) ∧ P g ∧ w.heap[g]? = some (.cells cs 36 (0, 0)) ∧ q * 4 ≤ cs.size ∧
      ∀ k, k < l.length → ∃ v', (∀ (j : Nat) u, (exHead (exAt l k) v')[j]? = some u → cs[k * 4 + j]? = some u) ∧ (exAt l k).s.size ≤ 9223372036854775807 ∧ exY P d w v' (exAt l k).ps)
section
variable {P P' : Nat → Prop} {w w' : World}
theorem exY.keep (hk : ∀ k, P k → P' k ∧ w'.heap[k]? = w.heap[k]?) : ∀ {d d' : Nat} {v : Value} {l : ExL}, d ≤ d' → exY P d w v l → exY P' d' w' v l
  | 0, 0, _, _, _, h => h
  | 0, d' + 1, v, l, _, ⟨h1, h2⟩ => ⟨fun _ => h2, fun h => by rw [h1] at h; simp at h⟩
  | d + 1, 0, _, _, hd, _ => by omega
  | d + 1, d' + 1, v, l, hd, ⟨h1, h2⟩ => ⟨h1, fun hn => by
      obtain ⟨g, q, cs, e, hq, hP, hg, hs, hc⟩ := h2 hn
      refine ⟨g, q, cs, e, hq, (hk g hP).1, (hk g hP).2.trans hg, hs, fun k hkl => ?_⟩
      obtain ⟨v', g1, g2, g3⟩ := hc k hkl
      exact ⟨v', g1, g2, exY.keep hk (by omega) g3⟩⟩
theorem exY.slice : ∀ {d : Nat} {v : Value} {l : ExL}, exY P d w v l → ∃ A c, v = .slice A l.length c
  | 0, _, _, ⟨h1, h2⟩ => ⟨Option.none, 0, by rw [h1]; exact h2⟩
  | d + 1, v, l, ⟨h1, h2⟩ => by
    rcases Nat.eq_zero_or_pos l.length with h0 | h0
    · have := List.eq_nil_of_length_eq_zero h0
      exact ⟨Option.none, 0, by rw [h0]; exact h1 this⟩
    · obtain ⟨g, q, _, e, _⟩ := h2 h0
      exact ⟨_, _, e⟩
theorem exY.nil : ∀ {d : Nat}, exY P d w (.slice Option.none 0 0) []
  | 0 => ⟨rfl, rfl⟩
  | _ + 1 => ⟨fun _ => rfl, fun h => absurd h (by simp)⟩
/-- As they read. -/
theorem exY.q : ∀ {d : Nat} {v : Value} {l : ExL}, exY P d w v l → ∃ A c, v = .slice A l.length c ∧ exQ P d w A l
  | 0, _, _, ⟨h1, h2⟩ => ⟨Option.none, 0, by rw [h1]; exact h2, by rw [h1]; exact ⟨RdL.nil _, fun h => by simp at h⟩⟩
  | d + 1, v, l, ⟨h1, h2⟩ => by
    rcases Nat.eq_zero_or_pos l.length with h0 | h0
    · have hl := List.eq_nil_of_length_eq_zero h0
      refine ⟨Option.none, 0, by rw [h0]; exact h1 hl, ?_⟩
      rw [hl]
      exact ⟨RdL.nil _, fun h => by simp at h⟩
    · obtain ⟨g, q, cs, e, hq, hP, hg, hs, hc⟩ := h2 h0
      refine ⟨_, q, e, ⟨by omega, fun _ => ⟨g, 0, rfl, fun k hk => ?_⟩⟩, fun _ a ha => by cases ha; exact hP⟩
      obtain ⟨v', g1, g2, g3⟩ := hc k hk
      obtain ⟨A', c', e', hr⟩ := exY.q g3
      subst e'
      rw [exAt_eq hk] at g1 g2 hr
      exact ⟨_, rfl, ⟨A', c', rfl, hr.1, hr.2, g2⟩, fun j u hu => by rw [Nat.zero_add, cell_of_row _ _ _ _ _ _ hg]; exact g1 j u (by rw [← exAt_eq hk]; rw [exAt_eq hk]; exact hu)⟩
end
/-- In rows from block lo on, without block g. -/
def exZ (lo g d : Nat) (w : World) (v : Value) (l : ExL) : Prop := exY (fun k => lo ≤ k ∧ k ≠ g ∧ k < w.heap.size) d w v l
section
variable {lo g d d' : Nat} {w w' : World} {v : Value} {l : ExL}
theorem exZ.toW {A : Option Addr} {n c : Nat} (h : exZ lo g d w (.slice A n c) l) : exW d w A l := by
  obtain ⟨A', c', e, hq⟩ := exY.q h
  cases e
  exact hq.s (fun k hk => ⟨Nat.zero_le _, hk.2.2⟩)
theorem exZ.below (h : exZ lo g d w v l) (hb : Below w.heap.size w w') : exZ lo g d w' v l := exY.keep (fun k hk => ⟨⟨hk.1, hk.2.1, Nat.lt_of_lt_of_le hk.2.2 hb.size⟩, hb.block k hk.2.2⟩) (Nat.le_refl _) h
theorem exZ.grown (h : exZ lo g d w v l) (hg : w.grownBy w' (some g)) : exZ lo g d w' v l := exY.keep (fun k hk => ⟨⟨hk.1, hk.2.1, Nat.lt_of_lt_of_le hk.2.2 hg.size⟩, hg.block k hk.2.2 (fun e => hk.2.1 (by cases e; rfl))⟩) (Nat.le_refl _) h
theorem exZ.low {row : Option Nat} (h : exZ lo g d w v l) (hg : w.grownBy w' row) (hr : ∀ k, row = some k → k < lo) : exZ lo g d w' v l := exY.keep (fun k hk => ⟨⟨hk.1, hk.2.1, Nat.lt_of_lt_of_le hk.2.2 hg.size⟩, hg.block k hk.2.2 (fun e => by have := hr k e.symm; omega)⟩) (Nat.le_refl _) h
theorem exZ.deeper (h : exZ lo g d w v l) (hd : d ≤ d') : exZ lo g d' w v l := exY.keep (fun _ hk => ⟨hk, rfl⟩) hd h
theorem exU.y : ∀ {d a b : Nat} {v : Value} {l : ExL}, exU d a b w v l → exY (fun k => a ≤ k ∧ k < b) d w v l
  | 0, _, _, _, _, h => h
  | d + 1, a, b, v, l, ⟨l', h1, h2, h3, h4, h5, h6⟩ => ⟨h6, fun hn => by
      have hge := h5.ge
      obtain ⟨A, c, xs, e, ho, hc⟩ := h5
      have hl : l'.length = l.length := by rw [← h1, List.length_map]
      rw [hl] at e ho
      rcases ho.2 with ⟨_, h0⟩ | ⟨g, cap, cur, hv, hB, hx, k1, k2, k3, k4⟩
      · omega
      · rw [hv] at e
        simp only [maxLen] at k2
        refine ⟨g, cap, cur, e, ⟨k1, by omega⟩, ⟨hB, h4 g (by rw [e]; rfl)⟩, hx, by omega, fun k hk => ?_⟩
        obtain ⟨cc, c1, ⟨v', c2, c3, c4⟩, c5⟩ := hc.at k (by omega)
        have ha : l'[k]'(by omega) ∈ l' := List.getElem_mem _
        have hb := h2.1 _ ha
        have hx1 : (l'[k]'(by omega)).1 = exAt l k := by
          rw [exAt_eq hk]
          simp only [← h1, List.getElem_map]
        rw [hx1] at c2 c3 c4
        refine ⟨v', fun j u hu => ?_, c4, exY.keep (fun q hq => ⟨⟨by omega, by omega⟩, rfl⟩) (Nat.le_refl _) (exU.y c3)⟩
        rw [← c2] at hu
        have h7 := c5 j u hu
        rw [← k4] at h7
        have hlt := (List.getElem?_eq_some_iff.1 h7).1
        rw [List.getElem?_take_of_lt (by simp at hlt; omega)] at h7
        simpa using h7⟩
theorem exU.toZ {a b : Nat} (h : exU d a b w v l) (h0 : lo ≤ a) (hg : g < a ∨ b ≤ g) (hh : b ≤ w.heap.size) : exZ lo g d w v l := exY.keep (fun k hk => ⟨⟨by omega, by omega, by omega⟩, rfl⟩) (Nat.le_refl _) h.y
/-- A row of two, laid anew. -/
theorem exZ.two {b c1 c2 : Nat} {A1 A2 : Option Addr} {t1 t2 : Ex} (hb : w.heap[b]? = some (.cells #[.int .i64 t1.k, .int .i64 t1.n, .string t1.s, .slice A1 t1.ps.length c1, .int .i64 t2.k, .int .i64 t2.n, .string t2.s, .slice A2 t2.ps.length c2] 36 (0, 0))) (h0 : lo ≤ b) (hg : b ≠ g)
    (h1 : exZ lo g d w (.slice A1 t1.ps.length c1) t1.ps) (h2 : exZ lo g d w (.slice A2 t2.ps.length c2) t2.ps) (s1 : t1.s.size ≤ 9223372036854775807) (s2 : t2.s.size ≤ 9223372036854775807) : exZ lo g (d + 1) w (.slice (some ⟨b, 0, none⟩) 2 2) [t1, t2] := by
  refine ⟨fun h => by simp at h, fun _ => ⟨b, 2, _, rfl, ⟨Nat.le_refl _, by decide⟩, ⟨h0, hg, (Array.getElem?_eq_some_iff.1 hb).1⟩, hb, by simp, fun k hk => ?_⟩⟩
  match k, hk with
  | 0, _ => exact ⟨_, fun j u hu => by
      match j, hu with
      | 0, hu => exact hu
      | 1, hu => exact hu
      | 2, hu => exact hu
      | 3, hu => exact hu
      | n + 4, hu => simp [exHead] at hu, s1, h1⟩
  | 1, _ => exact ⟨_, fun j u hu => by
      match j, hu with
      | 0, hu => exact hu
      | 1, hu => exact hu
      | 2, hu => exact hu
      | 3, hu => exact hu
      | n + 4, hu => simp [exHead] at hu, s2, h2⟩
  | n + 2, hk => exact absurd hk (by simp)
end
def GbZ (lo g d : Nat) (t : Ex) (W w : World) : Prop := ∃ A c, ExBx g t w A c ∧ exZ lo g d w (.slice A t.ps.length c) t.ps ∧ Below g W w
theorem GbZ.below {lo g d : Nat} {t : Ex} {W w w' : World} (h : GbZ lo g d t W w) (hb : Below w.heap.size w w') : GbZ lo g d t W w' := by
  obtain ⟨A, c, h1, h2, h3⟩ := h
  have hg := (Array.getElem?_eq_some_iff.1 h1).1
  exact ⟨A, c, block_below h1 hb, h2.below hb, h3.trans (hb.mono (by omega))⟩
def ExZ (lo g d : Nat) (r : Ex) (w : World) (v : Value) : Prop := ∃ A c, v = .agg #[.int .i64 r.k, .int .i64 r.n, .string r.s, .slice A r.ps.length c] ∧ exZ lo g d w (.slice A r.ps.length c) r.ps
theorem ExZ.below {lo g d : Nat} {r : Ex} {w w' : World} {v : Value} (h : ExZ lo g d r w v) (hb : Below w.heap.size w w') : ExZ lo g d r w' v := let ⟨A, c, e, h⟩ := h; ⟨A, c, e, h.below hb⟩
def TwZ (lo g d : Nat) (t1 t2 : Ex) (w : World) (v : Value) : Prop := ∃ b, v = .slice (some ⟨b, 0, none⟩) 2 2 ∧ exZ lo g d w (.slice (some ⟨b, 0, none⟩) 2 2) [t1, t2]
theorem TwZ.below {lo g d : Nat} {t1 t2 : Ex} {w w' : World} {v : Value} (h : TwZ lo g d t1 t2 w v) (hb : Below w.heap.size w w') : TwZ lo g d t1 t2 w' v := let ⟨b, e, h⟩ := h; ⟨b, e, h.below hb⟩
/-- What GuardedBy leaves: rows that were not there. -/
def GuPost (d : Nat) (r : Ex) (w : World) (e : Ending) (w' : World) : Prop := ∃ A c, e = .returned (.tuple #[.agg #[.int .i64 (gbE d r).k, .int .i64 (gbE d r).n, .string (gbE d r).s, .slice A (gbE d r).ps.length c], .bool (gbB d r)]) ∧ exY (fun k => w.heap.size ≤ k ∧ k < w'.heap.size) (d + (gbL d r).length) w' (.slice A (gbE d r).ps.length c) (gbE d r).ps ∧ Below w.heap.size w w'
theorem GuPost.no {d : Nat} {r : Ex} {w w' : World} (h : gbB d r = false) (hb : Below w.heap.size w w') : GuPost d r w (.returned (.tuple #[.agg #[.int .i64 0, .int .i64 0, .string ⟨#[]⟩, .slice Option.none 0 0], .bool false])) w' := by
  refine ⟨Option.none, 0, ?_, ?_, hb⟩
  · rw [h, gb_no h]; rfl
  · rw [gb_no h]; exact exY.nil
set_option maxRecDepth 100000 in
set_option maxHeartbeats 16000000 in
theorem specGuardedByY {d : Nat} {A : Option Addr} {r : Ex} {c : Nat} {w : World} (hU : exW d w A r.ps) (hs : r.s.size ≤ 9223372036854775807) (hcnt : cntS d r.ps ≤ 2097152) :
    Calls Tryz.prog 15 #[.agg #[.int .i64 r.k, .int .i64 r.n, .string r.s, .slice A r.ps.length c]] w (GuPost d r w) := by
  have hlen := exS.len hU
  obtain ⟨gx, hgx⟩ : ∃ g, g = w.heap.size := ⟨_, rfl⟩
  obtain ⟨W, hW⟩ : ∃ W, W = (w.alloc (.cells #[.int .i64 r.k, .int .i64 r.n, .string r.s, .slice A r.ps.length c] 36)).alloc (.cells #[.int .i64 0, .int .i64 0, .string ⟨#[]⟩, .slice Option.none 0 0] 36) := ⟨_, rfl⟩
  have hBW : Below w.heap.size w W := by rw [hW]; (repeat (first | exact Below.refl _ _ | refine ext_alloc ?_ _ | refine Below.setCell ?_ (by simp) _))
  have hWs : W.heap.size = w.heap.size + 2 := by rw [hW]; simp
  have hbx : W.heap[gx]? = some (.cells #[.int .i64 r.k, .int .i64 r.n, .string r.s, .slice A r.ps.length c] 36 (0, 0)) := by rw [hW, hgx]; exact block_below (heap_alloc_at rfl) (below_alloc _ _)
  have hb2 : W.heap[gx + 1]? = some (.cells #[.int .i64 0, .int .i64 0, .string ⟨#[]⟩, .slice Option.none 0 0] 36 (0, 0)) := by rw [hW, hgx]; exact heap_alloc_at (by simp)
  have b0 : W.cell? ⟨gx, 0, none⟩ = some _ := (cell_of_row W gx 0 _ _ _ hbx).trans rfl
  have b1 : W.cell? ⟨gx, 1, none⟩ = some _ := (cell_of_row W gx 1 _ _ _ hbx).trans rfl
  have b2 : W.cell? ⟨gx, 2, none⟩ = some _ := (cell_of_row W gx 2 _ _ _ hbx).trans rfl
  have b3 : W.cell? ⟨gx, 3, none⟩ = some _ := (cell_of_row W gx 3 _ _ _ hbx).trans rfl
  have hUW := hU.below hBW
  have hin := exS_in hU
  have HW := Lib.hid hW
  have HGX := Lib.hid hgx
  have HU0 := Lib.hid hU
  have HBX := Lib.hid hbx
  have HB2 := Lib.hid hb2
  have hgW : gx + 2 = W.heap.size := by omega
  have HGW := Lib.hid hgW
  have hB := hBW
  have HBW0 := Lib.hid hBW
  clear hW hgx hU hbx hb2 hBW hWs hgW
  cases hok : exOk r
  · have HR : Hid (gbB d r = false) := Lib.hid (by rw [gbB, hok]; rfl)
    go_enter Tryz.func15, Tryz.ntmps15
    go_wp2_with fail
    rw [← HW.out, ← HGX.out]
    refine (specExprValid hUW hs hcnt).mono ?_
    rintro e w1 ⟨rfl, hb⟩
    rw [hok]
    have hr2 := block_below HB2.out hb
    replace hB := ext_trans hB hb
    clear b0 b1 b2 b3 hok hUW hb
    have y0 : w1.cell? ⟨gx + 1, 0, none⟩ = some _ := (cell_of_row w1 (gx + 1) 0 _ _ _ hr2).trans rfl
    have y1 : w1.cell? ⟨gx + 1, 1, none⟩ = some _ := (cell_of_row w1 (gx + 1) 1 _ _ _ hr2).trans rfl
    have y2 : w1.cell? ⟨gx + 1, 2, none⟩ = some _ := (cell_of_row w1 (gx + 1) 2 _ _ _ hr2).trans rfl
    have y3 : w1.cell? ⟨gx + 1, 3, none⟩ = some _ := (cell_of_row w1 (gx + 1) 3 _ _ _ hr2).trans rfl
    have z0 := frozen_of_row w1 (gx + 1) 0 _ _ hr2
    have z1 := frozen_of_row w1 (gx + 1) 1 _ _ hr2
    have z2 := frozen_of_row w1 (gx + 1) 2 _ _ hr2
    have z3 := frozen_of_row w1 (gx + 1) 3 _ _ hr2
    clear hr2
    go_wp2
    refine bodyPost_ret (v := .tuple #[.agg #[.int .i64 0, .int .i64 0, .string ⟨#[]⟩, .slice Option.none 0 0], .bool false]) (by simp [results, go_sem, y0, y1, y2, y3]) rfl (GuPost.no HR.out ?_)
    exact setCells_below (by have := HGX.out; omega) [.int .i64 0, .int .i64 0, .string ⟨#[]⟩, .slice Option.none 0 0] 0 hB
  obtain ⟨hgd, hc40⟩ := ok_parts hin hok
  have hcn : ∀ m, cntR m r ≤ 1048576 := in_cnt hin (show cntR (d + 1) r ≤ 1048576 by omega)
  cases has : asB (d + 1) r
  · obtain ⟨L, hL⟩ : ∃ L, L = gbL d r := ⟨_, rfl⟩
    have hLl : L.length ≤ 40 := by
      have := fi_len (d + 1) r []
      rw [hL, gbL]
      simp only [List.length_nil] at this
      omega
    have hLm : ∀ x ∈ L, ∀ m, cntR m x ≤ 39 := by rw [hL]; exact fi_mem (d + 1) r [] (in_cnt hin (by omega)) (by simp)
    have hc0 := join_cnt (t := r) L hLm (in_cnt hin (show cntR (d + 1) r ≤ 39 by omega))
    have HO : Hid (gbO d r = joinE L r) := Lib.hid (by rw [hL]; rfl)
    have HD : Hid (d + (gbL d r).length = d + L.length) := Lib.hid (by rw [hL])
    have HL : Hid (fiS (d + 1) r [] = L) := Lib.hid hL.symm
    have HCN := Lib.hid hcn
    have HLM : Hid (∀ x ∈ L, ∀ m, cntR m x ≤ 1048576) := Lib.hid (fun x hx m => Nat.le_trans (hLm x hx m) (by omega))
    have HC0 : Hid (∀ m, cntR m (joinE L r) ≤ 2097152) := Lib.hid (fun m => by
      have h1 := hc0 m
      have h2 : L.length * (39 + 2) ≤ 40 * (39 + 2) := Nat.mul_le_mul_right _ hLl
      omega)
    have HC1 : Hid (([] : ExL).length + 1 + cntR (d + 1) r ≤ 1048576) := Lib.hid (by simp; omega)
    have HBB : Hid (gbB d r = exOk (joinE L r)) := Lib.hid (by rw [gbB, hok, has, HO.out]; rfl)
    have HAS := Lib.hid has
    clear hc0 hLm hcn has hL hgd hc40
    go_enter Tryz.func15, Tryz.ntmps15
    go_wp2_with fail
    rw [← HW.out, ← HGX.out]
    refine (specExprValid hUW hs hcnt).mono ?_
    rintro e w1 ⟨rfl, hb⟩
    rw [hok]
    have hX := hb
    replace hB := ext_trans hB hb
    obtain ⟨b0', b1', b2', b3'⟩ := cells4 (block_below HBX.out hX)
    clear b0 b1 b2 b3 hok hb
    go_wp2_with fail
    refine (asQ_all d _ _ _ _ (hUW.below hX)).mono ?_
    rintro e w2 ⟨rfl, hb⟩
    rw [HAS.out]
    replace hX := ext_trans hX hb
    obtain ⟨b0, b1, b2, b3⟩ := cells4 (block_below HBX.out hX)
    clear b0' b1' b2' b3' hb
    go_wp2_with fail
    refine (fiQ_all (d + 1) d _ _ r [] c _ _ ((hUW.below hX).below (below_alloc _ _)) hs exS.nil (Nat.le_refl _) HC1.out).mono ?_
    rw [HL.out]
    rintro e w3 ⟨A6, c6, rfl, hk6, hb⟩
    replace hX := ext_trans hX (ext_trans (below_alloc _ _) hb)
    obtain ⟨b0', b1', b2', b3'⟩ := cells4 (block_below HBX.out hX)
    have HK6 := Lib.hid hk6
    have hw3 := hX.size
    have hll := exS.len hk6
    clear b0 b1 b2 b3 hb hk6
    go_wp2_with fail
    refine (cuQ_all d _ _ _ _ (hUW.below hX) hs HCN.out).mono ?_
    rintro e w4 ⟨A7, c7, rfl, h7, hb⟩
    have h34 := hb.size
    replace hX := ext_trans hX hb
    obtain ⟨X, hXX⟩ : ∃ X, X = w4.alloc (.cells #[.int .i64 r.k, .int .i64 r.n, .string r.s, .slice A7 r.ps.length c7] 36) := ⟨_, rfl⟩
    obtain ⟨g5, hg5⟩ : ∃ g, g = w4.heap.size := ⟨_, rfl⟩
    have hbX : Below w4.heap.size w4 X := by rw [hXX]; exact below_alloc _ _
    have hX5 : ExBx g5 r X A7 c7 := by rw [ExBx, hXX, hg5]; exact heap_alloc_new _ _
    have hwX := hX.size
    have h3X := (ext_trans (show Below W.heap.size W W from Below.refl _ _) (hX.trans (hbX.mono hX.size)))
    have hG5 : exZ W.heap.size g5 d X (.slice A7 r.ps.length c7) r.ps := (exU.toZ (h7.keep (fun q _ hq => hbX.block q hq)) hw3 (.inr (by omega)) hbX.size)
    have hs5 : g5 + 1 = X.heap.size := by rw [hXX, hg5]; simp
    have H35 : Hid (w3.heap.size ≤ g5) := Lib.hid (by rw [hg5]; exact h34)
    have HW3 : Hid (W.heap.size ≤ g5) := Lib.hid (by rw [hg5]; omega)
    have HG5 := Lib.hid hg5
    have HXX := Lib.hid hXX
    have HS5 := Lib.hid hs5
    have H3X : Hid (Below w3.heap.size w3 X) := Lib.hid (ext_trans hb hbX)
    have HWX := Lib.hid h3X
    have HGB : Hid (GbZ W.heap.size g5 d r X X) := Lib.hid ⟨A7, c7, hX5, hG5, Below.refl _ _⟩
    clear hXX hg5 hbX hX5 h7 hG5 h3X hs5 b0' b1' b2' b3' hb hX
    have HJ : Hid (joinE (L.drop L.length) r = r) := Lib.hid (by rw [List.drop_length]; rfl)
    have HS := Lib.hid hs
    clear hw3 h34 hwX
    go_wp2_with fail
    rw [← HXX.out, ← HG5.out]
    go_loopw [6] (fun iv wr => ∃ q : Nat, q ≤ L.length ∧ iv = .int .i64 ((q : Int) - 1) ∧ GbZ W.heap.size g5 (d + (L.length - q)) (joinE (L.drop q) r) X wr) (fun iv _ => (intOf iv + 1).toNat)
    case atStart => exact ⟨L.length, Nat.le_refl _, rfl, by rw [HJ.out, Nat.sub_self]; exact HGB.out⟩
    case round =>
      obtain ⟨q, hq, rfl, A9, c9, hbx, hG, hBX⟩ := hrel
      have hgw := (Array.getElem?_eq_some_iff.1 hbx).1
      have h3 := H3X.out.trans (hBX.mono H35.out)
      cases q with
      | zero =>
        obtain ⟨x0, x1, x2, x3⟩ := cells4 hbx
        have hgO : joinE (L.drop 0) r = joinE L r := rfl
        obtain ⟨o, ho⟩ : ∃ o, o = joinE L r := ⟨_, rfl⟩
        obtain ⟨D, hD⟩ : ∃ D, D = d + L.length := ⟨_, rfl⟩
        have hos := join_s HS.out L
        have hco := HC0.out (D + 1)
        rw [hgO, ← ho] at hG x0 x1 x2 x3
        rw [Nat.sub_zero, ← hD] at hG
        rw [← ho] at hos hco
        have HOO : Hid (gbO d r = o) := Lib.hid (by rw [HO.out, ho])
        have HDD : Hid (d + (gbL d r).length = D) := Lib.hid (by rw [HD.out, hD])
        have HYB : Hid (gbB d r = exOk o) := Lib.hid (by rw [HBB.out, ho])
        have hB9 : Below w.heap.size w wr := (HBW0.out.trans (HWX.out.mono HBW0.out.size)).trans (hBX.mono (Nat.le_trans HBW0.out.size HW3.out))
        have HGG := Lib.hid hG
        have HBR : Hid (∀ q, q < g5 → wr.heap[q]? = X.heap[q]?) := Lib.hid (fun q hq => hBX.block q hq)
        clear ho hD hbx hG hBX h3 hgO
        have e1 : ((0 : Nat) : Int) - 1 = -1 := by omega
        rw [e1]
        have hcq : cntS D o.ps ≤ 2097152 := hco
        have hr2 : wr.heap[gx + 1]? = some (.cells #[.int .i64 0, .int .i64 0, .string ⟨#[]⟩, .slice Option.none 0 0] 36 (0, 0)) := (HBR.out _ (by have := HGW.out; have := HW3.out; omega)).trans (block_below HB2.out HWX.out)
        go_wp2_with fail
        refine (specExprValid HGG.out.toW hos hcq).mono ?_
        rintro e w5 ⟨rfl, hb⟩
        replace hr2 := block_below hr2 hb
        replace hB9 := ext_trans hB9 hb
        have hG5 := HGG.out.below hb
        obtain ⟨y0, y1, y2, y3⟩ := cells4 hr2
        obtain ⟨z0, z1, z2, z3⟩ := froz4 hr2
        replace x0 := below_cell hb x0
        replace x1 := below_cell hb x1
        replace x2 := below_cell hb x2
        replace x3 := below_cell hb x3
        have HG6 := Lib.hid hG5
        have hgx2 : w.heap.size ≤ gx + 1 := by have := HGX.out; omega
        obtain ⟨y, hy⟩ : ∃ y, exOk o = y := ⟨_, rfl⟩
        have HYY : Hid (gbB d r = y) := Lib.hid (by rw [HYB.out, hy])
        rw [hy]
        clear hr2 hb hG5 hy hco hcq
        cases y
        · go_wp2
          refine bodyPost_ret (v := .tuple #[.agg #[.int .i64 0, .int .i64 0, .string ⟨#[]⟩, .slice Option.none 0 0], .bool false]) (by simp [results, go_sem, y0, y1, y2, y3]) rfl (GuPost.no HYY.out ?_)
          exact setCells_below hgx2 [.int .i64 0, .int .i64 0, .string ⟨#[]⟩, .slice Option.none 0 0] 0 hB9
        · go_wp2
          refine bodyPost_ret (v := .tuple #[.agg #[.int .i64 o.k, .int .i64 o.n, .string o.s, .slice A9 o.ps.length c9], .bool true]) (by simp [results, go_sem, y0, y1, y2, y3]) rfl ⟨A9, c9, ?_, ?_, ?_⟩
          · rw [gb_yes HYY.out, HYY.out, HOO.out]
          · rw [gb_yes HYY.out, HDD.out, HOO.out]
            exact exY.keep (fun q hq => ⟨⟨Nat.le_trans HBW0.out.size hq.1, hq.2.2⟩, rfl⟩) (Nat.le_refl _) (HG6.out.low (setCells_grown (gx + 1) [.int .i64 o.k, .int .i64 o.n, .string o.s, .slice A9 o.ps.length c9] w5 0) (fun q e => by cases e; have := HGW.out; omega))
          · exact setCells_below hgx2 [.int .i64 o.k, .int .i64 o.n, .string o.s, .slice A9 o.ps.length c9] 0 hB9
      | succ p =>
        have hp : p < L.length := by omega
        have hk6 := HK6.out.below h3
        obtain ⟨b, off, rfl, hc⟩ := hk6.cells (by omega)
        obtain ⟨A1, c1, hfd, hs1, p0, p1, p2, p3⟩ := hc p hp
        obtain ⟨x0, x1, x2, x3⟩ := cells4 hbx
        have HCP : Hid (∀ m, cntR m (exAt L p) ≤ 1048576) := Lib.hid (by rw [exAt_eq hp]; exact HLM.out _ (List.getElem_mem hp))
        have HJD : Hid (joinE (L.drop p) r = .nd 14 0 ByteArray.empty [exAt L p, joinE (L.drop (p + 1)) r]) := Lib.hid (join_drop hp)
        have hdd : d + (L.length - p) = d + (L.length - (p + 1)) + 1 := by omega
        have HDD := Lib.hid hdd
        obtain ⟨D, hD⟩ : ∃ D, D = d + (L.length - (p + 1)) := ⟨_, rfl⟩
        have hdD : d ≤ D := by omega
        rw [← hD] at hG HDD
        have hos := join_s HS.out (L.drop (p + 1))
        obtain ⟨o, ho⟩ : ∃ o, o = joinE (L.drop (p + 1)) r := ⟨_, rfl⟩
        rw [← ho] at hG hos x0 x1 x2 x3 HJD hbx
        have HBXX := Lib.hid hbx
        have HS1 := Lib.hid hs1
        have HOS := Lib.hid hos
        have HFD := Lib.hid hfd
        have HGO := Lib.hid hG
        have HBW := Lib.hid hBX
        have hwx := hBX.size
        have HWXS := Lib.hid HWX.out.size
        clear hc hdd hD hos ho hbx hs1 hfd hG hBX h3 hk6
        have e1 : ((p + 1 : Nat) : Int) - 1 = (p : Int) := by omega
        rw [e1]
        go_wp2_with fail
        refine wp_region_draws2H (some 8) (fun wz => Below wr.heap.size wr wz) (fun wz => GbZ W.heap.size g5 (D + 1) (.nd 14 0 ByteArray.empty [exAt L p, o]) X wz) (fun i wz vz => match i with | 0 => vz = .slice (some ⟨b, off, none⟩) L.length c6 | 1 => vz = .int .i64 p | 2 => vz = .pointer (some ⟨b, off + p * 4, Option.none⟩) | 3 => vz = .agg #[.int .i64 (exAt L p).k, .int .i64 (exAt L p).n, .string (exAt L p).s, .slice A1 (exAt L p).ps.length c1] | 4 => ExZ W.heap.size g5 d (exAt L p) wz vz | 5 => vz = .agg #[.int .i64 o.k, .int .i64 o.n, .string o.s, .slice A9 o.ps.length c9] | 6 => TwZ W.heap.size g5 (D + 1) (exAt L p) o wz vz | 7 => ExZ W.heap.size g5 (D + 1) (.nd 14 0 ByteArray.empty [exAt L p, o]) wz vz | _ => True) (fun _ _ => True) (fun i w w' => i = 8 ∨ Below w.heap.size w w') (fun j => match j with | 4 => some 8 | 6 => some 8 | 7 => some 8 | _ => Option.none) (by kernel_rfl) (by kernel_rfl) (by kernel_rfl) ?stab8 ?stabG8 ?stabH8 trivial (ext_drew (Below.refl _ _)) ?all8 ?fin8
        case stab8 =>
          intro i j wa wb v hR hk hne hd _ h2 hT
          match j, hk, hne, hd, h2, hT with
          | 0, hk, hne, hd, h2, hT => exact (hT)
          | 1, hk, hne, hd, h2, hT => exact (hT)
          | 2, hk, hne, hd, h2, hT => exact (hT)
          | 3, hk, hne, hd, h2, hT => exact (hT)
          | 4, hk, hne, hd, h2, hT => exact (ExZ.below hT (hR.resolve_left (fun e => hk (by subst e; rfl))))
          | 5, hk, hne, hd, h2, hT => exact (hT)
          | 6, hk, hne, hd, h2, hT => exact (TwZ.below hT (hR.resolve_left (fun e => hk (by subst e; rfl))))
          | 7, hk, hne, hd, h2, hT => exact (ExZ.below hT (hR.resolve_left (fun e => hk (by subst e; rfl))))
          | n + 8, _, _, _, _, _ => trivial
        case stabG8 => exact fun i wa wb hR hne hG => ext_trans hG (hR.resolve_left (fun e => hne (by rw [e])))
        case stabH8 => exact fun i wa wb hR hne _ h => (by have hb := hR.resolve_left (fun e => hne (by rw [e])); exact GbZ.below h hb)
        case all8 =>
          refine RAllH.cons rfl ?_ (RAllH.cons rfl ?_ (RAllH.cons rfl ?_ (RAllH.cons rfl ?_ (RAllH.cons rfl ?_ (RAllH.cons rfl ?_ (RAllH.cons rfl ?_ (RAllH.cons rfl ?_ (RAllH.cons rfl ?_ (RAllH.none_)))))))))
          · intro a kq_ wa K Q _ _ hp hK0
            have hI : Below wr.heap.size wr wa := hp.pre (fun c hc => by cases hc; kernel_rfl)
            have hK := fun v w' h1 h2 (_ : Below wr.heap.size wr w') => hK0 v w' h1 (.inr h2) trivial (fun e => by cases e)
            exact op_move _ (.inl rfl) (hK _ _ (hp.keep 4 (by kernel_rfl)) (Below.refl _ _) hI)
          · intro a kq_ wa K Q _ _ hp hK0
            have hI : Below wr.heap.size wr wa := hp.pre (fun c hc => by cases hc; kernel_rfl)
            have hK := fun v w' h1 h2 (_ : Below wr.heap.size wr w') => hK0 v w' h1 (.inr h2) trivial (fun e => by cases e)
            exact op_move _ (.inl rfl) (hK _ _ (hp.keep 6 (by kernel_rfl)) (Below.refl _ _) hI)
          · intro a kq_ wa K Q _ _ hp hK0
            have hI : Below wr.heap.size wr wa := hp.pre (fun c hc => by cases hc; kernel_rfl)
            have hK := fun v w' h1 h2 (_ : Below wr.heap.size wr w') => hK0 v w' h1 (.inr h2) trivial (fun e => by cases e)
            have e27 := tmp_of (show a.eval (.tmp 27) = .slice (some ⟨b, off, none⟩) L.length c6 from hp.dep 0 27 (by kernel_rfl))
            have e28 := tmp_of (show a.eval (.tmp 28) = .int .i64 p from hp.dep 1 28 (by kernel_rfl))
            go_simp
            exact hK _ _ rfl (Below.refl _ _) hI
          · intro a kq_ wa K Q _ _ hp hK0
            have hI : Below wr.heap.size wr wa := hp.pre (fun c hc => by cases hc; kernel_rfl)
            have hK := fun v w' h1 h2 (_ : Below wr.heap.size wr w') => hK0 v w' h1 (.inr h2) trivial (fun e => by cases e)
            have e29 := tmp_of (show a.eval (.tmp 29) = .pointer (some ⟨b, off + p * 4, Option.none⟩) from hp.dep 2 29 (by kernel_rfl))
            have p0_ := below_cell hI p0
            have p1_ := below_cell hI p1
            have p2_ := below_cell hI p2
            have p3_ := below_cell hI p3
            go_simp
            exact hK _ _ rfl (Below.refl _ _) hI
          · intro a kq_ wa K Q _ _ hp hK0
            have hI : Below wr.heap.size wr wa := hp.pre (fun c hc => by cases hc; kernel_rfl)
            have hK := fun v w' h1 h2 (_ : Below wr.heap.size wr w') => hK0 v w' h1 (.inr h2) trivial (fun e => by cases e)
            have e30 := tmp_of (show a.eval (.tmp 30) = .agg #[.int .i64 (exAt L p).k, .int .i64 (exAt L p).n, .string (exAt L p).s, .slice A1 (exAt L p).ps.length c1] from hp.dep 3 30 (by kernel_rfl))
            go_simp
            refine (cuQ_all d _ _ _ _ (HFD.out.below hI) HS1.out HCP.out).mono ?_
            rintro e wb ⟨A8, c8, rfl, h8, hb⟩
            exact hK _ _ ⟨A8, c8, rfl, h8.toZ (by have := hI.size; have := HWXS.out; omega) (.inl (by have := hI.size; omega)) (Nat.le_refl _)⟩ hb (ext_trans hI hb)
          · intro a kq_ wa K Q _ _ hp hK0
            have hI : Below wr.heap.size wr wa := hp.pre (fun c hc => by cases hc; kernel_rfl)
            have hK := fun v w' h1 h2 (_ : Below wr.heap.size wr w') => hK0 v w' h1 (.inr h2) trivial (fun e => by cases e)
            have e5 := tmp_of (show a.eval (.tmp 5) = .pointer (some ⟨g5, 0, none⟩) from hp.keep 5 (by kernel_rfl))
            have x0_ := below_cell hI x0
            have x1_ := below_cell hI x1
            have x2_ := below_cell hI x2
            have x3_ := below_cell hI x3
            go_simp
            exact hK _ _ rfl (Below.refl _ _) hI
          · intro a kq_ wa K Q _ _ hp hK0
            have hI : Below wr.heap.size wr wa := hp.pre (fun c hc => by cases hc; kernel_rfl)
            have hK := fun v w' h1 h2 (_ : Below wr.heap.size wr w') => hK0 v w' h1 (.inr h2) trivial (fun e => by cases e)
            have t31 : ExZ W.heap.size g5 d (exAt L p) wa (a.eval (.tmp 31)) := hp.dep 4 31 (by kernel_rfl)
            have e32 := tmp_of (show a.eval (.tmp 32) = .agg #[.int .i64 o.k, .int .i64 o.n, .string o.s, .slice A9 o.ps.length c9] from hp.dep 5 32 (by kernel_rfl))
            obtain ⟨A8, c8, e31, h8⟩ := t31
            replace e31 := tmp_of e31
            go_simp
            exact hK _ _ ⟨_, rfl, exZ.two (heap_alloc_new _ _) (by have := hI.size; have := HWXS.out; omega) (by have := hI.size; omega) ((h8.deeper hdD).below (below_alloc _ _)) ((HGO.out.below hI).below (below_alloc _ _)) HS1.out HOS.out⟩ (below_alloc _ _) (ext_alloc hI _)
          · intro a kq_ wa K Q _ _ hp hK0
            have hI : Below wr.heap.size wr wa := hp.pre (fun c hc => by cases hc; kernel_rfl)
            have hK := fun v w' h1 h2 (_ : Below wr.heap.size wr w') => hK0 v w' h1 (.inr h2) trivial (fun e => by cases e)
            have t33 : TwZ W.heap.size g5 (D + 1) (exAt L p) o wa (a.eval (.tmp 33)) := hp.dep 6 33 (by kernel_rfl)
            obtain ⟨b9, e33, h9⟩ := t33
            replace e33 := tmp_of e33
            go_simp
            exact hK _ _ ⟨_, _, rfl, h9⟩ (Below.refl _ _) hI
          · intro a kq_ wa K Q _ _ hp hK0
            have hI : Below wr.heap.size wr wa := hp.pre (fun c hc => by cases hc; kernel_rfl)
            have hS := fun v w' h => hK0 v w' trivial (.inl rfl) trivial (fun _ => h)
            have e5 := tmp_of (show a.eval (.tmp 5) = .pointer (some ⟨g5, 0, none⟩) from hp.keep 5 (by kernel_rfl))
            have t34 : ExZ W.heap.size g5 (D + 1) (.nd 14 0 ByteArray.empty [exAt L p, o]) wa (a.eval (.tmp 34)) := hp.dep 7 34 (by kernel_rfl)
            obtain ⟨A5, c5, e34, h5⟩ := t34
            replace e34 := tmp_of e34
            have hbw := block_below HBXX.out hI
            obtain ⟨cw0, cw1, cw2, cw3⟩ := cells4 hbw
            obtain ⟨zw0, zw1, zw2, zw3⟩ := froz4 hbw
            go_simp
            exact hS (.tuple #[]) _ ⟨A5, c5, setCells_atG [.int .i64 14, .int .i64 0, .string ByteArray.empty, .slice A5 2 c5] 0 hbw (by simp), h5.grown (setCells_grown g5 [.int .i64 14, .int .i64 0, .string ByteArray.empty, .slice A5 2 c5] wa 0), setCells_below (Nat.le_refl _) [.int .i64 14, .int .i64 0, .string ByteArray.empty, .slice A5 2 c5] 0 (HBW.out.trans (hI.mono (by omega)))⟩
        case fin8 =>
          intro f w9 hT _ hH
          have hH := hH 8 rfl (by decide)
          have hr6 : (f 2) = .pointer (some ⟨b, off + p * 4, Option.none⟩) := hT 2 (by decide) rfl rfl
          clear hT
          clear hr6
          simp only [putAll]
          go_simp
          go_wp2
          go_roundw
          case rel => exact ⟨p, by omega, by first | rfl | go_num, by rw [HDD.out, HJD.out]; exact hH⟩
          case measure => first | (simp [intOf]; done) | (simp [intOf]; omega)
  · have HR : Hid (gbB d r = false) := Lib.hid (by rw [gbB, has, hok]; rfl)
    have HAS := Lib.hid has
    clear has hgd hc40 hcn
    go_enter Tryz.func15, Tryz.ntmps15
    go_wp2_with fail
    rw [← HW.out, ← HGX.out]
    refine (specExprValid hUW hs hcnt).mono ?_
    rintro e w1 ⟨rfl, hb⟩
    rw [hok]
    have hX := hb
    replace hB := ext_trans hB hb
    obtain ⟨b0', b1', b2', b3'⟩ := cells4 (block_below HBX.out hX)
    clear b0 b1 b2 b3 hok hb
    go_wp2_with fail
    refine (asQ_all d _ _ _ _ (hUW.below hX)).mono ?_
    rintro e w2 ⟨rfl, hb⟩
    rw [HAS.out]
    replace hB := ext_trans hB hb
    have hr2 := block_below HB2.out (ext_trans hX hb)
    obtain ⟨y0, y1, y2, y3⟩ := cells4 hr2
    obtain ⟨z0, z1, z2, z3⟩ := froz4 hr2
    clear b0' b1' b2' b3' hX hb hUW hr2
    go_wp2
    refine bodyPost_ret (v := .tuple #[.agg #[.int .i64 0, .int .i64 0, .string ⟨#[]⟩, .slice Option.none 0 0], .bool false]) (by simp [results, go_sem, y0, y1, y2, y3]) rfl (GuPost.no HR.out ?_)
    exact setCells_below (by have := HGX.out; omega) [.int .i64 0, .int .i64 0, .string ⟨#[]⟩, .slice Option.none 0 0] 0 hB
end Go.Proofs.YtodjokdaofefdaaGreat
