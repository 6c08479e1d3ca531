/- Expressions: what is drawn, as trees. -/
import Derived.Test.YtodjokdaofefdaaQ13
import Derived.Test.YtodjokdaofefdaaQ14
import Derived.Test.YtodjokdaofefdaaQ15
import Derived.Test.YtodjokdaofefdaaQ7
import Derived.Test.YtodjokdaofefdaaQ5
import Derived.Test.YtodjokdaofefdaaQ4
namespace Go.Proofs.Ytodjokdaofefdaa
set_option linter.unusedSimpArgs false
set_option linter.unusedVariables false
open Go.RowKit

/-- At most two parts each, m deep, with short names. -/
def shE : Nat → ExL → Prop
  | 0, l => l = []
  | m + 1, l => l.length ≤ 2 ∧ ∀ p ∈ l, p.s.size ≤ 16 ∧ shE m p.ps
theorem shE_cnt : ∀ (m d : Nat) (l : ExL), shE m l → cntS d l + 2 ≤ 2 ^ (m + 1)
  | 0, d, l, h => by rw [show l = [] from h]; simp [cntS]
  | m + 1, d, l, ⟨h1, h2⟩ => by
    have hp : ∀ p ∈ l, cntR d p + 2 ≤ 2 ^ (m + 1) := fun p hp => by
      cases d with
      | zero => have : 2 ≤ 2 ^ (m + 1) := by rw [Nat.pow_succ]; have := Nat.one_le_two_pow (n := m); omega
                simpa [cntR] using this
      | succ d => exact shE_cnt m d p.ps (h2 p hp).2
    have hpow : 2 ^ (m + 1 + 1) = 2 ^ (m + 1) + 2 ^ (m + 1) := by rw [Nat.pow_succ]; omega
    match l, h1, hp with
    | [], _, _ => have := Nat.one_le_two_pow (n := m + 1); simp only [cntS, List.length_nil, List.map_nil, List.sum_nil]; omega
    | [a], _, hp => have := hp a (by simp); have := Nat.one_le_two_pow (n := m + 1); simp only [cntS, List.length_cons, List.length_nil, List.map_cons, List.map_nil, List.sum_cons, List.sum_nil]; omega
    | [a, b], _, hp => have h3 := hp a (by simp); have h4 := hp b (by simp); simp only [cntS, List.length_cons, List.length_nil, List.map_cons, List.map_nil, List.sum_cons, List.sum_nil]; omega
    | _ :: _ :: _ :: _, h1, _ => simp at h1
theorem shp_ex : ∀ m, m ≤ 5 → shp exTab (3 + m) = (28, exRow m)
  | 0, _ => rfl
  | 1, _ => rfl
  | 2, _ => rfl
  | 3, _ => rfl
  | 4, _ => rfl
  | 5, _ => rfl
  | n + 6, h => by omega
theorem ex_ok : okTab exTab = true := by kernel_rfl
theorem sl_blk {c : Ctx} {tab : Tab} {i lo hi n q : Nat} {A : Option Addr} {w : World} (h : cden c tab (.sl i lo hi) w (.slice A n q)) : ∀ a, A = some a → c.B ≤ a.block ∧ a.block ≠ c.br ∧ a.block < w.heap.size := by
  intro a ha
  subst ha
  obtain ⟨h1 | ⟨g, o, n', q', e, _, _, _, h2⟩, _⟩ := h
  · cases h1
  · cases e
    exact ⟨h2.1, h2.2.1, (Array.getElem?_eq_some_iff.1 h2.2.2.choose_spec.1).1⟩
/-- Blocks of what is drawn. -/
def PDr (c : Ctx) (w : World) (k : Nat) : Prop := c.B ≤ k ∧ k ≠ c.br ∧ k < w.heap.size
theorem ex_dec {c : Ctx} {w : World} : ∀ (m : Nat), m ≤ 6 → ∀ (cs : List Value), RowK ((exRow m).map (cden c exTab)) w cs → ∃ t : Ex, (t.s.size ≤ 16 ∧ shE m t.ps) ∧ exP (PDr c w) (m + 1) w t cs
  | 0, _, cs, h => by
    obtain ⟨_, _, rfl, ⟨k, rfl⟩, _, _, rfl, ⟨n, rfl⟩, _, _, rfl, ⟨s, rfl, hs⟩, _, _, rfl, hv, rfl⟩ := h
    have hv : _ = Value.slice Option.none 0 0 := hv
    subst hv
    exact ⟨.nd k n s [], ⟨hs, rfl⟩, Option.none, 0, rfl, RdL.nil _, fun h => by simp [Ex.ps] at h, by show s.size ≤ _; omega⟩
  | m + 1, hm, cs, h => by
    obtain ⟨_, _, rfl, ⟨k, rfl⟩, _, _, rfl, ⟨n, rfl⟩, _, _, rfl, ⟨s, rfl, hs⟩, _, v, rfl, hv, rfl⟩ := h
    have hsh := shp_ex m (by omega)
    have hv2 : cden c exTab (.sl (3 + m) 0 2) w _ := hv
    obtain ⟨l, A, q, rfl, _, h1, h2, h3, _⟩ := sl_rd (R := exP (PDr c w) (m + 1)) (P := fun t => t.s.size ≤ 16 ∧ shE m t.ps) ex_ok (by rw [hsh]; exact ex_dec m (by omega)) (by decide) hv2
    have hb := sl_blk hv2
    rw [hsh] at h3
    exact ⟨.nd k n s l, ⟨hs, h1, h2⟩, A, q, rfl, h3, fun _ a ha => hb a ha, by show s.size ≤ _; omega⟩
theorem exY_den {c : Ctx} {w : World} {P : Nat → Prop} (hP : ∀ k, P k → c.B ≤ k ∧ k ≠ c.br) : ∀ (m : Nat), m ≤ 6 → ∀ {d : Nat} {v : Value} {l : ExL}, exY P d w v l → shE m l → cden c exTab (exPart m) w v
  | 0, _, 0, v, l, h, _ => h.2
  | 0, _, d + 1, v, l, h, hs => h.1 hs
  | m + 1, _, 0, v, l, h, _ => by
    show cden c exTab (.sl (3 + m) 0 2) w v
    rw [h.2]
    exact ⟨SlK.nil, _, _, _, rfl, Nat.zero_le _⟩
  | m + 1, hm, d + 1, v, l, h, hs => by
    show cden c exTab (.sl (3 + m) 0 2) w v
    rcases Nat.eq_zero_or_pos l.length with h0 | h0
    · rw [h.1 (List.eq_nil_of_length_eq_zero h0)]
      exact ⟨SlK.nil, _, _, _, rfl, Nat.zero_le _⟩
    · obtain ⟨g, q, cs, rfl, hq, hPg, hg, hsz, hc⟩ := h.2 h0
      have hsh := shp_ex m (by omega)
      have htd := (tab_den (c := c) ex_ok (3 + m)).1
      rw [hsh] at htd
      refine ⟨.inr ⟨g, 0, l.length, q, by simp, hs.1, hq.1, hq.2, ?_⟩, _, _, _, rfl, Nat.zero_le _⟩
      rw [htd]
      refine ⟨(hP g hPg).1, (hP g hPg).2, cs, hg, by simpa using hsz, fun q' f k u hq' hk hu => ?_⟩
      have hq2 : q' < l.length := by omega
      obtain ⟨v', h1, h2, h3⟩ := hc q' hq2
      have hmem : exAt l q' ∈ l := by rw [exAt_eq hq2]; exact List.getElem_mem _
      have hp := hs.2 _ hmem
      have hu2 : cs[q' * 4 + f]? = some u := by simpa using hu
      match f, hk with
      | 0, hk => cases hk; have := h1 0 _ rfl; rw [hu2] at this; cases this; exact ⟨_, rfl⟩
      | 1, hk => cases hk; have := h1 1 _ rfl; rw [hu2] at this; cases this; exact ⟨_, rfl⟩
      | 2, hk => cases hk; have := h1 2 _ rfl; rw [hu2] at this; cases this; exact ⟨_, rfl, hp.1⟩
      | 3, hk =>
        cases hk
        have := h1 3 _ rfl
        rw [hu2] at this
        cases this
        exact exY_den hP m (by omega) h3 hp.2
      | n + 4, hk => simp at hk
theorem gd_sh : ∀ (d m : Nat) (t : Ex), gdR d t = true → dpR d t ≤ m + 1 → t.s.size ≤ 16 ∧ shE m t.ps
  | 0, _, _, h, _ => by cases h
  | d + 1, m, t, h, hd => by
    have h1 := gd_head h
    have hl := headB_len h1
    have hs : t.s.size ≤ 16 := by
      simp only [headB, Bool.and_eq_true, Bool.or_eq_true, beq_iff_eq] at h1
      obtain ⟨_, _, _, h2, h3⟩ := h1
      cases hn : nmK t.k
      · rw [hn] at h2
        have : t.s = ByteArray.empty := by simpa using h2.symm
        rw [this]; decide
      · rw [hn] at h3
        rcases h3 with h3 | h3
        · cases h3
        · simp only [nmOk, Bool.and_eq_true, inB_true] at h3
          omega
    rw [dpR] at hd
    have hparts : ∀ p ∈ t.ps, gdR d p = true ∧ dpR d p ≤ m := fun p hp => by
      obtain ⟨k, hk, rfl⟩ := List.getElem_of_mem hp
      have := gd_part h hk
      rw [exAt_eq hk] at this
      have h3 : mxL (t.ps.map (dpR d)) ≤ m := by omega
      exact ⟨this, mx_le.1 h3 _ (List.mem_map_of_mem hp)⟩
    refine ⟨hs, ?_⟩
    cases m with
    | zero =>
      show t.ps = []
      cases hps : t.ps with
      | nil => rfl
      | cons p l =>
        obtain ⟨g1, g2⟩ := hparts p (by rw [hps]; simp)
        cases d with
        | zero => cases g1
        | succ d => rw [dpR] at g2; omega
    | succ m => exact ⟨hl, fun p hp => gd_sh d m p (hparts p hp).1 (hparts p hp).2⟩
theorem gb_sh {d D : Nat} {r : Ex} {w : World} {A : Option Addr} (h : exW D w A (gbE d r).ps) : (gbE d r).s.size ≤ 16 ∧ shE 6 (gbE d r).ps := by
  cases hb : gbB d r
  · rw [gb_no hb]
    exact ⟨by decide, by decide, fun p hp => by cases hp⟩
  · have h1 : exOk (gbE d r) = true := by
      rw [gb_yes hb]
      rw [gbB] at hb
      simp only [Bool.and_eq_true] at hb
      exact hb.2.2
    rw [exOk_eq (exS_in h)] at h1
    simp only [Bool.and_eq_true, decide_eq_true_eq] at h1
    exact gd_sh _ 6 _ h1.1 h1.2.2
def guC : Con := ⟨24, [.ag (exRow 5)], .tup [.agg (exRow 6), .c (.bool Option.none)], 0⟩
theorem gu_con : ConOk Try.prog exTab guC := by
  refine ⟨entersF Try.func24 (by kernel_rfl) rfl, ?_⟩
  rintro c w N args hB hcb hR hN hA
  match args, hA with
  | [v], ⟨⟨cs, e, hrow⟩, _⟩ =>
    subst e
    obtain ⟨t, ⟨hs, hsh⟩, A, q, rfl, h1, h2, h3⟩ := ex_dec 5 (by decide) cs hrow
    have hW : exW 5 w A t.ps := exQ.s (P := PDr c w) ⟨h1, h2⟩ (fun k hk => ⟨Nat.zero_le _, hk.2.2⟩)
    have hc := shE_cnt 5 5 _ hsh
    have hbr := hR.lt
    refine (specGuardedByY (c := q) hW h3 (by omega)).mono ?_
    rintro e w' ⟨A', c', rfl, hY, hb⟩
    obtain ⟨A2, c2, e2, hq⟩ := exY.q hY
    cases e2
    have hW' : exW _ w' A' (gbE 5 t).ps := hq.s (fun k hk => ⟨Nat.zero_le _, hk.2⟩)
    have hsh' := gb_sh hW'
    refine ⟨_, rfl, ⟨_, rfl, _, _, rfl, ⟨_, rfl, _, _, rfl, ⟨_, rfl⟩, _, _, rfl, ⟨_, rfl⟩, _, _, rfl, ⟨_, rfl, hsh'.1⟩, _, _, rfl, exY_den (fun k hk => ⟨Nat.le_trans hB hk.1, by omega⟩) 6 (by decide) hY hsh'.2, rfl⟩, _, _, rfl, ⟨_, rfl, fun y hy => by cases hy⟩, rfl⟩, (hR.below hb).mono (Nat.le_refl _), grown_of_below hb _⟩
end Go.Proofs.Ytodjokdaofefdaa
/- Guards: what is drawn. -/
namespace Go.Proofs.Ytodjokdaofefdaa
set_option linter.unusedSimpArgs false
set_option linter.unusedVariables false
open Go.RowKit

/-- An expression is drawn. -/
def DrE (m : Nat) (w : World) (e : Ending) (w' : World) : Prop := ∃ (t : Ex) (A : Option Addr) (c : Nat), e = .returned (.agg #[.int .i64 t.k, .int .i64 t.n, .string t.s, .slice A t.ps.length c]) ∧ shE m t.ps ∧ t.s.size ≤ 16 ∧ exW m w' A t.ps ∧ Below w.heap.size w w'
/-- A drawn expression at hand. -/
def DrV (m : Nat) (c : Ctx) (t : Ex) (w : World) (A : Option Addr) : Prop := exQ (PDr c w) m w A t.ps
theorem DrV.grown {m : Nat} {c : Ctx} {t : Ex} {w w' : World} {A : Option Addr} {row : Option Nat} (h : DrV m c t w A) (hg : w.grownBy w' row) (hr : ∀ k, row = some k → k = c.br ∨ k < c.B) : DrV m c t w' A :=
  exQ.keep h (Nat.le_refl _) (fun k hk => ⟨⟨hk.1, hk.2.1, Nat.lt_of_lt_of_le hk.2.2 hg.size⟩, hg.block k hk.2.2 (fun e => by rcases hr k e.symm with h | h; exact hk.2.1 h; have := hk.1; omega)⟩)
theorem DrV.w {m : Nat} {c : Ctx} {t : Ex} {w : World} {A : Option Addr} (h : DrV m c t w A) : exW m w A t.ps := h.s (fun k hk => ⟨Nat.zero_le _, hk.2.2⟩)
theorem DrV.up {m : Nat} {c c' : Ctx} {t : Ex} {w : World} {A : Option Addr} (h : DrV m c t w A) (hB : c'.B ≤ c.B) (hbr : c'.br = c.br) : DrV m c' t w A := exQ.keep h (Nat.le_refl _) (fun k hk => ⟨⟨Nat.le_trans hB hk.1, by rw [hbr]; exact hk.2.1, hk.2.2⟩, rfl⟩)
/-- The draw of an expression, at a reader. -/
theorem l20Expr_d {c : Ctx} {w : World} {N : Nat} {n : Int} (hB : c.B ≤ w.heap.size) (hcb : c.cb ≤ c.B) (hR : RdrT w c.br c.cb N) (hN : N + 1000000 ≤ 1000000000) (h0 : 0 ≤ n) (h1 : n ≤ 100) :
    Calls Try.prog 64 #[.pointer (some ⟨c.br, 0, Option.none⟩), .int .i64 n] w fun e w' => ∃ (t : Ex) (A : Option Addr) (q : Nat), e = .returned (.agg #[.int .i64 t.k, .int .i64 t.n, .string t.s, .slice A t.ps.length q]) ∧ shE 5 t.ps ∧ t.s.size ≤ 16 ∧ DrV 5 c t w' A ∧ RdrT w' c.br c.cb (N + 1000000) ∧ w.grownBy w' (some c.br) := by
  refine (expr_con.2 c w N [.pointer (some ⟨c.br, 0, Option.none⟩), .int .i64 n] hB hcb hR hN ⟨rfl, ⟨n, rfl, h0, h1⟩, trivial⟩).mono ?_
  rintro e w' ⟨v, rfl, ⟨cs, rfl, hrow⟩, hR', hg⟩
  obtain ⟨t, ⟨hs, hsh⟩, A, q, rfl, h1, h2, h3⟩ := ex_dec 5 (by decide) cs hrow
  exact ⟨t, A, q, rfl, hsh, hs, ⟨h1, h2⟩, hR', hg⟩
/-- GuardedBy of a drawn expression. -/
theorem specGuardedBy_d {c : Ctx} {w : World} {N : Nat} {t : Ex} {A : Option Addr} {q : Nat} (hsh : shE 5 t.ps) (hs : t.s.size ≤ 16) (hd : DrV 5 c t w A) (hB : c.B ≤ w.heap.size) (hR : RdrT w c.br c.cb N) :
    Calls Try.prog 24 #[.agg #[.int .i64 t.k, .int .i64 t.n, .string t.s, .slice A t.ps.length q]] w fun e w' => ∃ (x : Ex) (A' : Option Addr) (q' : Nat) (b : Bool), e = .returned (.tuple #[.agg #[.int .i64 x.k, .int .i64 x.n, .string x.s, .slice A' x.ps.length q'], .bool b]) ∧ shE 6 x.ps ∧ x.s.size ≤ 16 ∧ DrV 6 c x w' A' ∧ Below w.heap.size w w' := by
  have hc := shE_cnt 5 5 _ hsh
  have hbr := hR.lt
  refine (specGuardedByY (d := 5) (c := q) hd.w (by omega) (by omega)).mono ?_
  rintro e w' ⟨A', c', rfl, hY, hb⟩
  obtain ⟨A2, c2, e2, hq⟩ := exY.q hY
  cases e2
  have hW' : exW _ w' A' (gbE 5 t).ps := hq.s (fun k hk => ⟨Nat.zero_le _, hk.2⟩)
  have hsh' := gb_sh hW'
  have hden : RowK ((exRow 6).map (cden c exTab)) w' [.int .i64 (gbE 5 t).k, .int .i64 (gbE 5 t).n, .string (gbE 5 t).s, .slice A' (gbE 5 t).ps.length c'] := ⟨_, _, rfl, ⟨_, rfl⟩, _, _, rfl, ⟨_, rfl⟩, _, _, rfl, ⟨_, rfl, hsh'.1⟩, _, _, rfl, exY_den (fun k hk => ⟨Nat.le_trans hB hk.1, by omega⟩) 6 (by decide) hY hsh'.2, rfl⟩
  obtain ⟨x, ⟨g1, g2⟩, A3, q3, e3, h1, h2, h3⟩ := ex_dec 6 (by decide) _ hden
  simp only [exHead, List.cons.injEq, Value.int.injEq, Value.string.injEq, Value.slice.injEq, true_and, and_true] at e3
  obtain ⟨e4, e5, e6, rfl, e7, rfl⟩ := e3
  exact ⟨x, A', c', _, by rw [e4, e5, e6, e7], g2, g1, ⟨h1, h2⟩, hb⟩
set_option maxRecDepth 100000 in
set_option maxHeartbeats 2000000 in
theorem drawGuardedBy_d {A : Option Addr} {l : List Int} {q : Nat} {w : World} (hC : CodeR w w.heap.size A l) (hq : l.length ≤ q) :
    Calls Try.prog 30 #[.slice A l.length q] w (DrE 5 w) := by
  obtain ⟨g, hg⟩ : ∃ g, g = w.heap.size := ⟨_, rfl⟩
  obtain ⟨W, hW⟩ : ∃ W, W = w.alloc (.cells #[.int .i64 0, .int .i64 0, .string ⟨#[]⟩, .slice Option.none 0 0] 28) := ⟨_, rfl⟩
  have hbW : Below w.heap.size w W := by rw [hW]; exact below_alloc _ _
  have hgb : W.heap[g]? = some (.cells #[.int .i64 0, .int .i64 0, .string ⟨#[]⟩, .slice Option.none 0 0] 28 (0, 0)) := by rw [hW, hg]; exact heap_alloc_new _ _
  have hsz : W.heap.size = g + 1 := by rw [hW, hg]; simp
  have HC := Lib.hid (hC.below hbW)
  have HL := Lib.hid hC.1
  have HW := Lib.hid hW
  have HG := Lib.hid hg
  have HBW := Lib.hid hbW
  have HGB := Lib.hid hgb
  have HSZ := Lib.hid hsz
  clear hW hg hbW hgb hsz
  go_enter Try.func30, Try.ntmps30
  go_wp2_with fail
  rw [← HW.out]
  refine (l20Open_any HBW.out.size HC.out hq HL.out).mono ?_
  rintro e w1 ⟨rfl, hR, hb⟩
  have HB1 := Lib.hid hb
  obtain ⟨c, hc⟩ : ∃ c : Ctx, c = ⟨w1.heap.size, W.heap.size, w.heap.size, undef, 0⟩ := ⟨_, rfl⟩
  have hR1 : RdrT w1 W.heap.size w.heap.size 0 := ⟨0, by omega, by omega, hR⟩
  have HX := Lib.hid (l20Expr_d (c := c) (w := w1) (N := 0) (n := 9) (by rw [hc]; exact Nat.le_refl _) (by rw [hc]; exact Nat.le_trans HBW.out.size hb.size) (by rw [hc]; exact hR1) (by decide) (by decide) (by decide))
  have HCB : Hid (c.B = w1.heap.size ∧ c.br = W.heap.size) := Lib.hid ⟨by rw [hc], by rw [hc]⟩
  have hcp : Value.pointer (some ⟨W.heap.size, 0, Option.none⟩) = Value.pointer (some ⟨c.br, 0, Option.none⟩) := by rw [HCB.out.2]
  rw [hcp]
  clear hb hR hR1 hc hcp
  go_wp2_with fail
  refine HX.out.mono ?_
  rintro e w2 ⟨t, A', q', rfl, hsh, hs, hd, _, hgr⟩
  have hgB : g < c.B ∧ g ≠ c.br ∧ w.heap.size ≤ c.br := by
    have := HCB.out; have := HB1.out.size; have := HSZ.out; have := HG.out; omega
  have hg2 : w2.heap[g]? = some (.cells #[.int .i64 0, .int .i64 0, .string ⟨#[]⟩, .slice Option.none 0 0] 28 (0, 0)) := (hgr.block g (by have := HCB.out; omega) (fun e => by cases e; omega)).trans (block_below HGB.out HB1.out)
  have hB2 : Below w.heap.size w w2 := (ext_trans HBW.out HB1.out).grown hgr (Nat.le_trans HBW.out.size HB1.out.size) (fun k e => by cases e; exact hgB.2.2)
  have HB2 := Lib.hid hB2
  have HD := Lib.hid hd
  have HGW : Hid (w.heap.size ≤ g) := Lib.hid (by rw [HG.out]; exact Nat.le_refl _)
  have HSH := Lib.hid hsh
  obtain ⟨y0, y1, y2, y3⟩ := cells4 hg2
  obtain ⟨z0, z1, z2, z3⟩ := froz4 hg2
  rw [← HG.out]
  clear hg2 hB2 hd hgr hsh
  go_wp2
  refine bodyPost_ret (v := .agg #[.int .i64 t.k, .int .i64 t.n, .string t.s, .slice A' t.ps.length q']) (by simp [results, go_sem, y0, y1, y2, y3]) rfl ⟨t, A', q', rfl, HSH.out, hs, ?_, ?_⟩
  · exact (HD.out.grown (setCells_grown g [.int .i64 t.k, .int .i64 t.n, .string t.s, .slice A' t.ps.length q'] w2 0) (fun k e => by cases e; exact .inr hgB.1)).w
  · exact setCells_below HGW.out [.int .i64 t.k, .int .i64 t.n, .string t.s, .slice A' t.ps.length q'] 0 HB2.out
set_option maxRecDepth 100000 in
set_option maxHeartbeats 4000000 in
theorem drawGuarded_d {A : Option Addr} {l : List Int} {q : Nat} {w : World} (hC : CodeR w w.heap.size A l) (hq : l.length ≤ q) :
    Calls Try.prog 28 #[.slice A l.length q] w fun e w' => ∃ m, m ≤ 6 ∧ DrE m w e w' := by
  obtain ⟨g, hg⟩ : ∃ g, g = w.heap.size := ⟨_, rfl⟩
  obtain ⟨W, hW⟩ : ∃ W, W = w.alloc (.cells #[.int .i64 0, .int .i64 0, .string ⟨#[]⟩, .slice Option.none 0 0] 28) := ⟨_, rfl⟩
  have hbW : Below w.heap.size w W := by rw [hW]; exact below_alloc _ _
  have hgb : W.heap[g]? = some (.cells #[.int .i64 0, .int .i64 0, .string ⟨#[]⟩, .slice Option.none 0 0] 28 (0, 0)) := by rw [hW, hg]; exact heap_alloc_new _ _
  have hsz : W.heap.size = g + 1 := by rw [hW, hg]; simp
  have HC := Lib.hid (hC.below hbW)
  have HL := Lib.hid hC.1
  have HW := Lib.hid hW
  have HG := Lib.hid hg
  have HBW := Lib.hid hbW
  have HGB := Lib.hid hgb
  have HSZ := Lib.hid hsz
  clear hW hg hbW hgb hsz
  go_enter Try.func28, Try.ntmps28
  go_wp2_with fail
  rw [← HW.out, ← HG.out]
  refine (l20Open_any HBW.out.size HC.out hq HL.out).mono ?_
  rintro e w1 ⟨rfl, hR, hb⟩
  have HB1 := Lib.hid hb
  obtain ⟨c, hc⟩ : ∃ c : Ctx, c = ⟨w1.heap.size, W.heap.size, w.heap.size, undef, 0⟩ := ⟨_, rfl⟩
  have hR1 : RdrT w1 W.heap.size w.heap.size 0 := ⟨0, by omega, by omega, hR⟩
  have HX := Lib.hid (l20Expr_d (c := c) (w := w1) (N := 0) (n := 9) (by rw [hc]; exact Nat.le_refl _) (by rw [hc]; exact Nat.le_trans HBW.out.size hb.size) (by rw [hc]; exact hR1) (by decide) (by decide) (by decide))
  have HCB : Hid (c.B = w1.heap.size ∧ c.br = W.heap.size ∧ c.cb = w.heap.size) := Lib.hid ⟨by rw [hc], by rw [hc], by rw [hc]⟩
  have hcp : Value.pointer (some ⟨W.heap.size, 0, Option.none⟩) = Value.pointer (some ⟨c.br, 0, Option.none⟩) := by rw [HCB.out.2.1]
  rw [hcp]
  clear hb hR hR1 hc hcp
  go_wp2_with fail
  refine HX.out.mono ?_
  rintro e w2 ⟨t, A', q', rfl, hsh, hs, hd, hR2, hgr⟩
  have HgB : Hid (g < c.B ∧ g ≠ c.br ∧ w.heap.size ≤ c.br ∧ g + 1 ≤ c.br) := Lib.hid (by
    have := HCB.out; have := HB1.out.size; have := HSZ.out; have := HG.out; omega)
  have hg2 : w2.heap[g]? = some (.cells #[.int .i64 0, .int .i64 0, .string ⟨#[]⟩, .slice Option.none 0 0] 28 (0, 0)) := (hgr.block g (by have := HCB.out; have := HgB.out; omega) (fun e => by cases e; have := HgB.out; omega)).trans (block_below HGB.out HB1.out)
  have hB2 : Below w.heap.size w w2 := (ext_trans HBW.out HB1.out).grown hgr (Nat.le_trans HBW.out.size HB1.out.size) (fun k e => by cases e; exact HgB.out.2.2.1)
  -- the variable
  obtain ⟨ge, hge⟩ : ∃ n, n = w2.heap.size := ⟨_, rfl⟩
  obtain ⟨W2, hW2⟩ : ∃ W, W = w2.alloc (.cells #[.int .i64 t.k, .int .i64 t.n, .string t.s, .slice A' t.ps.length q'] 28) := ⟨_, rfl⟩
  have hb2 : Below w2.heap.size w2 W2 := by rw [hW2]; exact below_alloc _ _
  have he2 : W2.heap[ge]? = some (.cells #[.int .i64 t.k, .int .i64 t.n, .string t.s, .slice A' t.ps.length q'] 28 (0, 0)) := by rw [hW2, hge]; exact heap_alloc_new _ _
  have hsB : c.B ≤ w2.heap.size := by have := HCB.out; have := hgr.size; omega
  have HD := Lib.hid (hd.grown (grown_of_below hb2 Option.none) (fun k e => by cases e))
  have HR2 := Lib.hid (hR2.below hb2)
  have HG2 := Lib.hid (block_below hg2 hb2)
  have HE2 := Lib.hid he2
  have HB2 := Lib.hid (ext_trans hB2 hb2)
  have HSB : Hid (c.B ≤ W2.heap.size ∧ c.B ≤ ge ∧ ge ≠ c.br) := Lib.hid (by have := hb2.size; have := hR2.lt; omega)
  have HY := Lib.hid (specGuardedBy_d (q := q') hsh hs HD.out HSB.out.1 HR2.out)
  have HW2 := Lib.hid hW2
  have HGE := Lib.hid hge
  have HSH := Lib.hid hsh
  have HS := Lib.hid hs
  clear hg2 hB2 hd hgr hsh hs hR2 hge hW2 hb2 he2 hsB HX HGB
  go_wp2_with fail
  rw [← HW2.out, ← HGE.out]
  refine HY.out.mono ?_
  rintro e w3 ⟨x, A3, q3, b, rfl, hxs, hxz, hxd, hb3⟩
  obtain ⟨gx, hgx⟩ : ∃ n, n = w3.heap.size := ⟨_, rfl⟩
  obtain ⟨W3, hW3⟩ : ∃ W, W = w3.alloc (.cells #[.int .i64 x.k, .int .i64 x.n, .string x.s, .slice A3 x.ps.length q3] 28) := ⟨_, rfl⟩
  have hbx : Below w3.heap.size w3 W3 := by rw [hW3]; exact below_alloc _ _
  have hb4 := ext_trans hb3 hbx
  have HXD := Lib.hid (hxd.grown (grown_of_below hbx Option.none) (fun k e => by cases e))
  have HD := Lib.hid (HD.out.grown (grown_of_below hb4 Option.none) (fun k e => by cases e))
  have HR3 := Lib.hid (HR2.out.below hb4)
  have HG3 := Lib.hid (block_below HG2.out hb4)
  have HE3 := Lib.hid (block_below HE2.out hb4)
  have HB3 := Lib.hid (ext_trans HB2.out hb4)
  have hx3 : W3.heap[gx]? = some (.cells #[.int .i64 x.k, .int .i64 x.n, .string x.s, .slice A3 x.ps.length q3] 28 (0, 0)) := by rw [hW3, hgx]; exact heap_alloc_new _ _
  have HX3 := Lib.hid hx3
  have HXB : Hid (c.B ≤ gx ∧ gx ≠ c.br) := Lib.hid (by have := HSB.out; have := hb3.size; have := (HR2.out.below hb3).lt; omega)
  have HXS := Lib.hid hxs
  have HXZ := Lib.hid hxz
  have HW3 := Lib.hid hW3
  have HGX := Lib.hid hgx
  have HGW : Hid (w.heap.size ≤ g) := Lib.hid (by rw [HG.out]; exact Nat.le_refl _)
  clear hb3 hxd hxs hxz hgx hW3 hbx hb4 hx3 HR2 HG2 HE2 HB2 HY HW2
  have hfin : ∀ (w' : World) (t : Ex) (A : Option Addr) (q m : Nat), m ≤ 6 → shE m t.ps → t.s.size ≤ 16 → DrV m c t w' A → Below w.heap.size w w' → ∃ m, m ≤ 6 ∧ DrE m w (.returned (.agg #[.int .i64 t.k, .int .i64 t.n, .string t.s, .slice A t.ps.length q])) (setCells w' g 0 [.int .i64 t.k, .int .i64 t.n, .string t.s, .slice A t.ps.length q]) := fun w' t A q m hm h1 h2 h3 h4 =>
    ⟨m, hm, t, A, q, rfl, h1, h2, (h3.grown (setCells_grown g _ w' 0) (fun k e => by cases e; exact .inr HgB.out.1)).w, setCells_below HGW.out _ 0 h4⟩
  have HFIN := Lib.hid hfin
  clear hfin
  cases b
  · obtain ⟨y0, y1, y2, y3⟩ := cells4 HG3.out
    obtain ⟨z0, z1, z2, z3⟩ := froz4 HG3.out
    obtain ⟨x0, x1, x2, x3⟩ := cells4 HE3.out
    have HF := Lib.hid (HFIN.out W3 t A' q' 5 (by decide) HSH.out HS.out HD.out HB3.out)
    rw [HW3.out] at x0 x1 x2 x3 y0 y1 y2 y3 z0 z1 z2 z3 HF
    go_wp2
    exact bodyPost_ret (v := .agg #[.int .i64 t.k, .int .i64 t.n, .string t.s, .slice A' t.ps.length q']) (by simp [results, go_sem, y0, y1, y2, y3]) rfl HF.out
  · have HP := Lib.hid (pick_d (n := 2) HR3.out (by decide) (by decide) (by decide))
    go_wp2_with fail
    rw [← HW3.out, ← HGX.out]
    refine HP.out.mono ?_
    rintro e w4 ⟨k, rfl, hk0, hk1, _, hg4⟩
    have hB4 := HB3.out.grown hg4 HB3.out.size (fun k e => by cases e; exact HgB.out.2.2.1)
    have hE4 := (hg4.block ge (Array.getElem?_eq_some_iff.1 HE3.out |>.1) (fun e => HSB.out.2.2 (by cases e; rfl))).trans HE3.out
    have hX4 := (hg4.block gx (Array.getElem?_eq_some_iff.1 HX3.out |>.1) (fun e => HXB.out.2 (by cases e; rfl))).trans HX3.out
    have hG4 := (hg4.block g (Array.getElem?_eq_some_iff.1 HG3.out).1 (fun e => HgB.out.2.1 (by cases e; rfl))).trans HG3.out
    have HF := Lib.hid (HFIN.out w4 t A' q' 5 (by decide) HSH.out HS.out (HD.out.grown hg4 (fun k e => by cases e; exact .inl rfl)) hB4)
    have HF2 := Lib.hid (HFIN.out w4 x A3 q3 6 (by decide) HXS.out HXZ.out (HXD.out.grown hg4 (fun k e => by cases e; exact .inl rfl)) hB4)
    obtain ⟨y0, y1, y2, y3⟩ := cells4 hG4
    obtain ⟨z0, z1, z2, z3⟩ := froz4 hG4
    obtain ⟨e0, e1, e2, e3⟩ := cells4 hE4
    obtain ⟨x0, x1, x2, x3⟩ := cells4 hX4
    clear hB4 hE4 hX4 hG4 hg4
    by_cases hk : k = 0
    · subst hk
      go_wp2
      exact bodyPost_ret (v := .agg #[.int .i64 x.k, .int .i64 x.n, .string x.s, .slice A3 x.ps.length q3]) (by simp [results, go_sem, y0, y1, y2, y3]) rfl HF2.out
    · have hkb : (k == 0) = false := by simp [hk]
      clear hk
      go_wp2
      exact bodyPost_ret (v := .agg #[.int .i64 t.k, .int .i64 t.n, .string t.s, .slice A' t.ps.length q']) (by simp [results, go_sem, y0, y1, y2, y3]) rfl HF.out
end Go.Proofs.Ytodjokdaofefdaa
/- Copies of expressions, by the program. -/
namespace Go.Proofs.Ytodjokdaofefdaa
set_option linter.unusedSimpArgs false
set_option linter.unusedVariables false
open Go.RowKit

theorem enters_clone1 : ∀ args w, (callFunc 125 args).run Try.prog w = .ok (.enter 125 args) w := enters_of Try.func125 (by kernel_rfl) rfl
set_option maxHeartbeats 1000000 in
theorem clone1_any {A : Option Addr} {r : Ex} {n c : Nat} {w : World} :
    Calls Try.prog 125 #[.agg #[.int .i64 r.k, .int .i64 r.n, .string r.s, .slice A n c]] w fun e w' => e = .returned (.agg #[.int .i64 r.k, .int .i64 r.n, .string r.s, .slice A n c]) ∧ Below w.heap.size w w' := by
  go_enter Try.func125, Try.ntmps125
  go_wp2
  refine bodyPost_ret (v := .agg #[.int .i64 r.k, .int .i64 r.n, .string r.s, .slice A n c]) (by simp [results, go_sem]) rfl ⟨rfl, ?_⟩
  repeat (first | exact Below.refl _ _ | refine ext_alloc ?_ _)
/-- What is appended as a whole to nothing. -/
def ExB (d N : Nat) (w : World) (a : ExX) (cs : List Value) : Prop := ExN d w a cs ∧ a.2.1 ≤ a.2.2 ∧ a.2.2 ≤ N
set_option maxRecDepth 100000 in
set_option maxHeartbeats 4000000 in
theorem with_any {d lo N : Nat} {A0 A : Option Addr} {r : Ex} {n0 c0 c : Nat} {l' : List ExX} {w : World} (hr : RdL (ExB d N) 4 w A l') (ha : AscX lo N l') (hlN : lo ≤ N) (hN : N ≤ w.heap.size) (hn : l'.length ≤ 1048576) :
    Calls Try.prog 149 #[.agg #[.int .i64 r.k, .int .i64 r.n, .string r.s, .slice A0 n0 c0], .slice A l'.length c] w fun e w' => ∃ A' c', e = .returned (.agg #[.int .i64 r.k, .int .i64 r.n, .string r.s, .slice A' l'.length c']) ∧ exT (d + 1) lo w'.heap.size w' (.slice A' l'.length c') (l'.map Prod.fst) ∧ Below w.heap.size w w' := by
  obtain ⟨gx, hgx⟩ : ∃ g, g = w.heap.size := ⟨_, rfl⟩
  obtain ⟨W, hW⟩ : ∃ W, W = (w.alloc (.cells #[.int .i64 r.k, .int .i64 r.n, .string r.s, .slice A0 n0 c0] 28)).alloc (.cells #[.int .i64 0, .int .i64 0, .string ⟨#[]⟩, .slice Option.none 0 0] 28) := ⟨_, rfl⟩
  have hBW : Below w.heap.size w W := by rw [hW]; (repeat (first | exact Below.refl _ _ | refine ext_alloc ?_ _ | refine Below.setCell ?_ (by simp) _))
  have hrW : RdL (ExB d N) 4 W A l' := RdL.mono hr hBW (fun a cs h => ⟨h.1.keep (fun k _ k2 => hBW.block k (by have := h.2.2; omega)), h.2⟩)
  have HR := Lib.hid hrW
  have HW := Lib.hid hW
  have HBW := Lib.hid hBW
  have HGX := Lib.hid hgx
  have hNW : N ≤ W.heap.size := Nat.le_trans hN hBW.size
  have HNW := Lib.hid hNW
  have hbx : W.heap[gx]? = some (.cells #[.int .i64 r.k, .int .i64 r.n, .string r.s, .slice A0 n0 c0] 28 (0, 0)) := by rw [hW, hgx]; exact block_below (heap_alloc_at rfl) (below_alloc _ _)
  have hb2 : W.heap[gx + 1]? = some (.cells #[.int .i64 0, .int .i64 0, .string ⟨#[]⟩, .slice Option.none 0 0] 28 (0, 0)) := by rw [hW, hgx]; exact heap_alloc_at (by simp)
  have HBX := Lib.hid hbx
  have HB2 := Lib.hid hb2
  have hgW : gx + 2 = W.heap.size := by rw [hW, hgx]; simp
  have HGW := Lib.hid hgW
  clear hW hBW hrW hr hNW hbx hb2 hgx hgW
  go_enter Try.func149, Try.ntmps149
  go_wp2_with (at_builtin; rw [← HW.out, ← HGX.out]; go_must (refine wpList_appendG (R := ExB d N) (B := N) (l := []) (l2 := l') rfl (.const (.slice Option.none 0 0)) (.tmp 5) 26 28 _ 4 56 rfl Try.underlying26 Try.infoExpr rfl (by decide) (fun a cs h => h.1.one) OwnG.nil rfl HR.out (fun w' hg a cs h => ⟨h.1.keep (fun k _ k2 => hg.block k (by have := h.2.2; have := HNW.out; omega) (fun e => by cases e)), h.2⟩) (by simp; omega) (by simp; omega) HNW.out ?_); intro v3 w3 hO3 hB3 hg3 hv3; obtain ⟨A3, c3, e3⟩ : ∃ A3 c3, v3 = .slice A3 l'.length c3 := (by obtain ⟨A7, c7, _, e7, _⟩ := hO3; exact ⟨A7, c7, by rw [e7]; simp⟩); subst e3; have hr2 := (hg3.block (gx + 1) (by have := HGW.out; omega) (fun e => by cases e)).trans HB2.out; have hbx := (hg3.block gx (by have := HGW.out; omega) (fun e => by cases e)).trans HBX.out; obtain ⟨b0, b1, b2, b3⟩ := cells4 hbx; obtain ⟨zb0, zb1, zb2, zb3⟩ := froz4 hbx; obtain ⟨y0, y1, y2, y3⟩ := cells4 hr2; obtain ⟨z0, z1, z2, z3⟩ := froz4 hr2; clear hbx hr2)
  have hblk : ∀ k, (Value.slice A3 l'.length c3).ownBlock = some k → k = gx + 2 := fun k hk => by
    rcases hv3 with e | e
    · rw [e] at hk; cases hk
    · rw [e] at hk; cases hk; exact HGW.out.symm
  have hNx : N ≤ gx := by rw [HGX.out]; exact hN
  have hg1 := setCells_grown gx [.slice A3 l'.length c3] w3 3
  have hg2 := setCells_grown (gx + 1) [.int .i64 r.k, .int .i64 r.n, .string r.s, .slice A3 l'.length c3] (setCells w3 gx 3 [.slice A3 l'.length c3]) 0
  have hk : ∀ {w w' : World} {row : Option Nat}, w.grownBy w' row → N ≤ w.heap.size → (∀ k, row = some k → N ≤ k) → ∀ a cs, ExB d N w a cs → ExB d N w' a cs := fun hg hs hr a cs h => ⟨h.1.keep (fun k _ k2 => hg.block k (by have := h.2.2; omega) (fun e => by have := h.2.2; have := hr k e.symm; omega)), h.2⟩
  have hN3 : N ≤ w3.heap.size := Nat.le_trans HNW.out hg3.size
  have hO4 := OwnG.kept hO3 hg1 (fun k hq e => by cases e; have := hblk _ hq; omega) (hk hg1 hN3 (fun k e => by cases e; exact hNx))
  have hO5 := OwnG.kept hO4 hg2 (fun k hq e => by cases e; have := hblk _ hq; omega) (hk hg2 (Nat.le_trans hN3 hg1.size) (fun k e => by cases e; omega))
  have hge := hO5.ge
  rw [List.nil_append] at hO5
  refine bodyPost_ret (v := .agg #[.int .i64 r.k, .int .i64 r.n, .string r.s, .slice A3 l'.length c3]) (by simp [results, go_sem, y0, y1, y2, y3]) rfl ⟨A3, c3, rfl, ?_, ?_⟩
  · exact ⟨l', rfl, ha.wide (Nat.le_refl _) (by show N ≤ (setCells (setCells w3 gx 3 [.slice A3 l'.length c3]) (gx + 1) 0 [.int .i64 r.k, .int .i64 r.n, .string r.s, .slice A3 l'.length c3]).heap.size; rw [setCells_size, setCells_size]; exact hN3), fun a ha2 k hq => .inr (by have := (ha.1 a ha2).2.2; have := hblk _ hq; omega), fun k hq => (hge k hq).2, hO5.lower hlN (fun _ _ h => h.1)⟩
  · exact setCells_below (by have := HGX.out; omega) [.int .i64 r.k, .int .i64 r.n, .string r.s, .slice A3 l'.length c3] 0 (setCells_below (by have := HGX.out; omega) [.slice A3 l'.length c3] 3 (HBW.out.trans (grown_below hg3 HBW.out.size (fun k e => by cases e))))
def MpQ (d : Nat) : Prop := ∀ (A : Option Addr) (r : Ex) (c : Nat) (w : World), exW d w A r.ps → r.s.size ≤ 9223372036854775807 → (∀ m, cntR m r ≤ 1048576) →
  Calls Try.prog 124 #[.agg #[.int .i64 r.k, .int .i64 r.n, .string r.s, .slice A r.ps.length c], .func (.func 125) #[] #[]] w fun e w' => ∃ A' c', e = .returned (.agg #[.int .i64 r.k, .int .i64 r.n, .string r.s, .slice A' r.ps.length c']) ∧ exT d w.heap.size w'.heap.size w' (.slice A' r.ps.length c') r.ps ∧ Below w.heap.size w w'
set_option maxRecDepth 100000 in
set_option maxHeartbeats 8000000 in
theorem mpQ_of {d : Nat} (hQ : ∀ m, d = m + 1 → MpQ m) : MpQ d := by
  intro A r c w hU hs hn
  have hlen : r.ps.length ≤ 1048576 := by have := hn 1; rw [cntR] at this; omega
  have eg := enters_clone1
  have HQ := Lib.hid hQ
  have HN := Lib.hid hn
  have HS := Lib.hid hs
  clear hQ hn hs
  obtain ⟨gx, hgx⟩ : ∃ g, g = w.heap.size := ⟨_, rfl⟩
  obtain ⟨W, hW⟩ : ∃ W, W = (w.alloc (.cells #[.int .i64 r.k, .int .i64 r.n, .string r.s, .slice A r.ps.length c] 28)).alloc (.cells #[.int .i64 0, .int .i64 0, .string ⟨#[]⟩, .slice Option.none 0 0] 28) := ⟨_, rfl⟩
  have hBW : Below w.heap.size w W := by rw [hW]; (repeat (first | exact Below.refl _ _ | refine ext_alloc ?_ _ | refine Below.setCell ?_ (by simp) _))
  have hbx : W.heap[gx]? = some (.cells #[.int .i64 r.k, .int .i64 r.n, .string r.s, .slice A r.ps.length c] 28 (0, 0)) := by rw [hW, hgx]; exact block_below (heap_alloc_at rfl) (below_alloc _ _)
  have hb2 : W.heap[gx + 1]? = some (.cells #[.int .i64 0, .int .i64 0, .string ⟨#[]⟩, .slice Option.none 0 0] 28 (0, 0)) := by rw [hW, hgx]; exact heap_alloc_at (by simp)
  obtain ⟨b0, b1, b2, b3⟩ := cells4 hbx
  have hUW := hU.below hBW
  have HU0 := Lib.hid hU
  have HW := Lib.hid hW
  have HBW := Lib.hid hBW
  have HGX := Lib.hid hgx
  have HBX := Lib.hid hbx
  have HB2 := Lib.hid hb2
  have hgW : gx + 2 = W.heap.size := by rw [hW, hgx]; simp
  have HGW := Lib.hid hgW
  clear hW hBW hbx hb2 hgx hgW hU
  go_enter Try.func124, Try.ntmps124
  go_wp2_with fail
  rw [← HW.out, ← HGX.out]
  clear b0 b1 b2 b3
  go_loopw [5, 11] (fun pv iv wr => ∃ (k : Nat) (Ak : Option Addr) (ck : Nat) (l' : List ExX) (N : Nat), k ≤ r.ps.length ∧ iv = .int .i64 k ∧ pv = .slice Ak k ck ∧ l'.map Prod.fst = r.ps.take k ∧ ExO (d - 1) W.heap.size N wr (.slice Ak k ck) l' ∧ W.heap.size ≤ N ∧ Below W.heap.size W wr) (fun _ iv _ => r.ps.length - (intOf iv).toNat)
  case atStart => exact ⟨0, Option.none, 0, [], W.heap.size, Nat.zero_le _, rfl, rfl, by simp, ExO.nil (Nat.le_refl _), Nat.le_refl _, Below.refl _ _⟩
  case round =>
    obtain ⟨k, Ak, ck, l', N, hk, rfl, rfl, hmap, hO, hLN, hB⟩ := hrel
    have hML : l'.length = k := by rw [← List.length_map (f := Prod.fst), hmap, List.length_take]; omega
    have HML := Lib.hid hML
    have HMAP := Lib.hid hmap
    have HO := Lib.hid hO
    have HB := Lib.hid hB
    have hBr : Below w.heap.size w wr := HBW.out.trans (hB.mono HBW.out.size)
    have hUr : exW d wr A r.ps := (exS.below HU0.out (Nat.le_refl _) hBr).wide (Nat.le_refl _) hBr.size
    have HBR := Lib.hid hBr
    clear hML hmap hO hBr
    by_cases hlt : k < r.ps.length
    · have hd : ∃ m, d = m + 1 := by
        cases d with
        | zero => have := exS.zero hUr; rw [this] at hlt; simp at hlt
        | succ m => exact ⟨m, rfl⟩
      obtain ⟨m, hm⟩ := hd
      subst hm
      have HQ1 := Lib.hid (HQ.out m rfl)
      obtain ⟨b, off, rfl, hc⟩ := hUr.cells (by omega)
      obtain ⟨A1, c1, hfd, hs1, p0, p1, p2, p3⟩ := hc k hlt
      have HCN : Hid (∀ q, cntR q (exAt r.ps k) ≤ 1048576) := Lib.hid (fun q => by rw [exAt_eq hlt]; exact Nat.le_trans (cnt_mem (List.getElem_mem hlt)) (HN.out (q + 1)))
      have HS1 := Lib.hid hs1
      have hb0 := below_alloc wr (.cells #[.int .i64 (exAt r.ps k).k, .int .i64 (exAt r.ps k).n, .string (exAt r.ps k).s, .slice A1 (exAt r.ps k).ps.length c1] 28)
      have HFD := Lib.hid (hfd.below hb0)
      have HO1 := Lib.hid (HO.out.below hb0)
      have HB1 := Lib.hid (HB.out.trans (hb0.mono hB.size))
      clear hc hs1 hfd hb0 hUr hB
      go_wp2_with fail
      refine (HQ1.out _ _ _ _ HFD.out HS1.out HCN.out).mono ?_
      rintro e w1 ⟨A8, c8, rfl, h8, hb⟩
      have hb1 := below_alloc w1 (.cells #[.int .i64 (exAt r.ps k).k, .int .i64 (exAt r.ps k).n, .string (exAt r.ps k).s, .slice A8 (exAt r.ps k).ps.length c8] 28)
      have hge := HO1.out.2.2.ge
      have hNa := HO1.out.2.1
      have hab := hb.size
      have hOY := ((HO1.out.below hb).below hb1)
      have hsY := hb1.size
      have hlo := (HB1.out.trans (hb.mono HB1.out.size)).size
      have HOY : Hid (OwnG (ExA m (.slice Ak k ck) w1.heap.size) W.heap.size 28 4 (w1.alloc (.cells #[.int .i64 (exAt r.ps k).k, .int .i64 (exAt r.ps k).n, .string (exAt r.ps k).s, .slice A8 (exAt r.ps k).ps.length c8] 28)) (.slice Ak k ck) l') := Lib.hid (hOY.2.2.lower (Nat.le_refl _) (fun x cs q => ⟨q.1, q.2.1, Nat.le_trans q.2.2.1 (Nat.le_trans hNa hab), q.2.2.2⟩))
      have HE : Hid (ExA m (.slice Ak k ck) w1.heap.size (w1.alloc (.cells #[.int .i64 (exAt r.ps k).k, .int .i64 (exAt r.ps k).n, .string (exAt r.ps k).s, .slice A8 (exAt r.ps k).ps.length c8] 28)) (exAt r.ps k, (wr.alloc (.cells #[.int .i64 (exAt r.ps k).k, .int .i64 (exAt r.ps k).n, .string (exAt r.ps k).s, .slice A1 (exAt r.ps k).ps.length c1] 28)).heap.size, w1.heap.size) (#[.int .i64 (exAt r.ps k).k, .int .i64 (exAt r.ps k).n, .string (exAt r.ps k).s, .slice A8 (exAt r.ps k).ps.length c8] : Array Value).toList) := Lib.hid ⟨⟨_, rfl, h8.below (Nat.le_refl _) hb1, HS1.out⟩, hab, Nat.le_refl _, fun q hq => .inl (hge q hq).2⟩
      have HNW := Lib.hid (heap_alloc_new w1 (.cells #[.int .i64 (exAt r.ps k).k, .int .i64 (exAt r.ps k).n, .string (exAt r.ps k).s, .slice A8 (exAt r.ps k).ps.length c8] 28))
      have HASC := Lib.hid HO1.out.1
      have HNA := Lib.hid hNa
      have HAB := Lib.hid hab
      have HSY := Lib.hid hsY
      have HLO := Lib.hid hlo
      have HB2 := Lib.hid ((HB1.out.trans (hb.mono HB1.out.size)).trans (hb1.mono hlo))
      have hlo1 := HB1.out.size
      have HLO1 := Lib.hid hlo1
      have hbl : W.heap.size ≤ (w1.alloc (.cells #[.int .i64 (exAt r.ps k).k, .int .i64 (exAt r.ps k).n, .string (exAt r.ps k).s, .slice A8 (exAt r.ps k).ps.length c8] 28)).heap.size := HB2.out.size
      have HBL := Lib.hid hbl
      clear h8 hb hb1 hge hNa hab hOY hsY hlo p0 p1 p2 p3 HFD HO HB hlo1 hbl HO1
      go_wp2_with (at_builtin; go_must (refine wpList_appendG (R := ExA m (.slice Ak k ck) w1.heap.size) (l := l') (l2 := [(exAt r.ps k, (wr.alloc (.cells #[.int .i64 (exAt r.ps k).k, .int .i64 (exAt r.ps k).n, .string (exAt r.ps k).s, .slice A1 (exAt r.ps k).ps.length c1] 28)).heap.size, w1.heap.size)]) rfl (.tmp 15) (.tmp 19) 26 28 _ 4 56 rfl Try.underlying26 Try.infoExpr rfl (by decide) (fun a cs h => h.1.one) HOY.out rfl (rd_blockG HNW.out rfl HE.out) (fun w' hg a cs h => h.row HSY.out hg) (by simp [HML.out]; omega) (by simp [HML.out]; omega) HBL.out ?_); intro v3 w3 hO3 hB3 hg3 hv3; obtain ⟨A3, c3, e3⟩ : ∃ A3 c3, v3 = .slice A3 (k + 1) c3 := (by obtain ⟨A7, c7, _, e7, _⟩ := hO3; exact ⟨A7, c7, by rw [e7]; simp [HML.out]⟩); subst e3)
      go_roundw
      case rel =>
        refine ⟨k + 1, A3, c3, l' ++ [(exAt r.ps k, (wr.alloc (.cells #[.int .i64 (exAt r.ps k).k, .int .i64 (exAt r.ps k).n, .string (exAt r.ps k).s, .slice A1 (exAt r.ps k).ps.length c1] 28)).heap.size, w1.heap.size)], w1.heap.size, by omega, by go_num, rfl, ?_, ?_, HLO.out, HB2.out.trans hB3⟩
        rotate_left
        · exact ExO.add HASC.out HNA.out HAB.out HLO1.out HSY.out hg3.size hO3 hv3
        · rw [List.map_append, HMAP.out, List.take_succ_eq_append_getElem hlt, ← exAt_eq hlt]; rfl
      case measure => simp [intOf]; omega
    · obtain rfl : k = r.ps.length := by omega
      have hrd : RdL (ExB (d - 1) N) 4 wr Ak l' := by
        obtain ⟨A7, c7, e7, h7⟩ := HO.out.2.2.rd (by rw [HML.out]; omega)
        simp only [Value.slice.injEq] at e7
        obtain ⟨rfl, _, rfl⟩ := e7
        exact RdL.keep h7 (fun a cs q => ⟨q.1, q.2.1, q.2.2.1⟩) (fun _ _ _ => rfl)
      have hWI := with_any (d := d - 1) (lo := W.heap.size) (A0 := A) (r := r) (n0 := r.ps.length) (c0 := c) (c := ck) hrd HO.out.1 hLN HO.out.2.1 (by rw [HML.out]; exact hlen)
      rw [HML.out] at hWI
      have HWI := Lib.hid hWI
      obtain ⟨b0, b1, b2, b3⟩ := cells4 (block_below HBX.out hB)
      clear hrd hWI hUr
      go_wp2_with fail
      refine HWI.out.mono ?_
      rintro e w1 ⟨A3, c3, rfl, h3, hb⟩
      replace hB := ext_trans hB hb
      have hr2 := block_below HB2.out hB
      obtain ⟨y0, y1, y2, y3⟩ := cells4 (block_below HB2.out hB)
      clear b0 b1 b2 b3
      go_wp2_with fail
      refine clone1_any.mono ?_
      rintro e w2 ⟨rfl, hb2⟩
      have H3 := Lib.hid (h3.below (Nat.le_refl _) hb2)
      have hs2 := hb2.size
      replace hB := ext_trans hB hb2
      replace hr2 := block_below HB2.out hB
      clear y0 y1 y2 y3
      obtain ⟨y0, y1, y2, y3⟩ := cells4 hr2
      obtain ⟨z0, z1, z2, z3⟩ := froz4 hr2
      have hgr := setCells_grown (gx + 1) [.int .i64 r.k, .int .i64 r.n, .string r.s, .slice A3 r.ps.length c3] w2 0
      have hm := HMAP.out
      rw [List.take_length] at hm
      have HU1 := HU0.out
      have HT : Hid (exT d w.heap.size (setCells w2 (gx + 1) 0 [.int .i64 r.k, .int .i64 r.n, .string r.s, .slice A3 r.ps.length c3]).heap.size (setCells w2 (gx + 1) 0 [.int .i64 r.k, .int .i64 r.n, .string r.s, .slice A3 r.ps.length c3]) (.slice A3 r.ps.length c3) r.ps) := Lib.hid (by
        cases d with
        | zero =>
          have h0 := exS.zero HU1
          exact ⟨h0, A3, c3, by rw [h0]; rfl⟩
        | succ m =>
          have h1 := H3.out
          rw [hm] at h1
          have h2 : exT (m + 1) W.heap.size w1.heap.size (setCells w2 (gx + 1) 0 [.int .i64 r.k, .int .i64 r.n, .string r.s, .slice A3 r.ps.length c3]) (.slice A3 r.ps.length c3) r.ps := h1.keep (fun q k1 k2 => hgr.block q (by omega) (fun e => by cases e; have := HGW.out; omega))
          exact h2.wide HBW.out.size (by rw [setCells_size]; exact hs2))
      have HBF : Hid (Below w.heap.size w (setCells w2 (gx + 1) 0 [.int .i64 r.k, .int .i64 r.n, .string r.s, .slice A3 r.ps.length c3])) := Lib.hid (setCells_below (by have := HGX.out; omega) _ 0 (HBW.out.trans (hB.mono HBW.out.size)))
      clear hgr hm HU1 hr2 hb2 hb h3
      go_wp2
      exact bodyPost_ret (v := .agg #[.int .i64 r.k, .int .i64 r.n, .string r.s, .slice A3 r.ps.length c3]) (by simp [results, go_sem, y0, y1, y2, y3]) rfl ⟨_, _, rfl, HT.out, HBF.out⟩
theorem mpQ_all : ∀ d, MpQ d
  | 0 => mpQ_of (fun m h => by cases h)
  | d + 1 => mpQ_of (fun m h => by cases h; exact mpQ_all d)
set_option maxHeartbeats 1000000 in
theorem exClone_any {d : Nat} {A : Option Addr} {r : Ex} {c : Nat} {w : World} (hU : exW d w A r.ps) (hs : r.s.size ≤ 9223372036854775807) (hn : ∀ m, cntR m r ≤ 1048576) :
    Calls Try.prog 84 #[.agg #[.int .i64 r.k, .int .i64 r.n, .string r.s, .slice A r.ps.length c]] w fun e w' => ∃ A' c', e = .returned (.agg #[.int .i64 r.k, .int .i64 r.n, .string r.s, .slice A' r.ps.length c']) ∧ exT d w.heap.size w'.heap.size w' (.slice A' r.ps.length c') r.ps ∧ Below w.heap.size w w' := by
  obtain ⟨gx, hgx⟩ : ∃ g, g = w.heap.size := ⟨_, rfl⟩
  obtain ⟨W, hW⟩ : ∃ W, W = (w.alloc (.cells #[.int .i64 r.k, .int .i64 r.n, .string r.s, .slice A r.ps.length c] 28)).alloc (.cells #[.int .i64 0, .int .i64 0, .string ⟨#[]⟩, .slice Option.none 0 0] 28) := ⟨_, rfl⟩
  have hBW : Below w.heap.size w W := by rw [hW]; (repeat (first | exact Below.refl _ _ | refine ext_alloc ?_ _ | refine Below.setCell ?_ (by simp) _))
  have hb2 : W.heap[gx + 1]? = some (.cells #[.int .i64 0, .int .i64 0, .string ⟨#[]⟩, .slice Option.none 0 0] 28 (0, 0)) := by rw [hW, hgx]; exact heap_alloc_at (by simp)
  have hgW : gx + 2 = W.heap.size := by rw [hW, hgx]; simp
  have HM := Lib.hid (mpQ_all d A r c W (hU.below hBW) hs hn)
  have HW := Lib.hid hW
  have HBW := Lib.hid hBW
  have HGX := Lib.hid hgx
  have HB2 := Lib.hid hb2
  have HGW := Lib.hid hgW
  clear hW hBW hb2 hgx hgW hU
  go_enter Try.func84, Try.ntmps84
  go_wp2_with fail
  rw [← HW.out, ← HGX.out]
  refine HM.out.mono ?_
  rintro e w1 ⟨A3, c3, rfl, h3, hb⟩
  have hr2 := block_below HB2.out hb
  obtain ⟨y0, y1, y2, y3⟩ := cells4 hr2
  obtain ⟨z0, z1, z2, z3⟩ := froz4 hr2
  have hgr := setCells_grown (gx + 1) [.int .i64 r.k, .int .i64 r.n, .string r.s, .slice A3 r.ps.length c3] w1 0
  have h2 : exT d W.heap.size w1.heap.size (setCells w1 (gx + 1) 0 [.int .i64 r.k, .int .i64 r.n, .string r.s, .slice A3 r.ps.length c3]) (.slice A3 r.ps.length c3) r.ps := h3.keep (fun q k1 k2 => hgr.block q (by omega) (fun e => by cases e; have := HGW.out; omega))
  have HT : Hid (exT d w.heap.size (setCells w1 (gx + 1) 0 [.int .i64 r.k, .int .i64 r.n, .string r.s, .slice A3 r.ps.length c3]).heap.size (setCells w1 (gx + 1) 0 [.int .i64 r.k, .int .i64 r.n, .string r.s, .slice A3 r.ps.length c3]) (.slice A3 r.ps.length c3) r.ps) := Lib.hid (h2.wide HBW.out.size (by rw [setCells_size]; exact Nat.le_refl _))
  have HBF : Hid (Below w.heap.size w (setCells w1 (gx + 1) 0 [.int .i64 r.k, .int .i64 r.n, .string r.s, .slice A3 r.ps.length c3])) := Lib.hid (setCells_below (by have := HGX.out; omega) _ 0 (HBW.out.trans (hb.mono HBW.out.size)))
  clear hgr hr2 hb h3 h2
  go_wp2
  exact bodyPost_ret (v := .agg #[.int .i64 r.k, .int .i64 r.n, .string r.s, .slice A3 r.ps.length c3]) (by simp [results, go_sem, y0, y1, y2, y3]) rfl ⟨_, _, rfl, HT.out, HBF.out⟩
end Go.Proofs.Ytodjokdaofefdaa
/- A region that draws its order with an append and stores behind it in any order: what holds ahead of the append, what holds behind each store, of the value that the append gave. -/
namespace Go.Proofs.Ytodjokdaofefdaa
set_option linter.unusedSimpArgs false
set_option linter.unusedVariables false
open Go.RowKit

structure RPreL (ops : Array Oper) (a0 : Act) (T : Nat → Value → World → Value → Prop) (gc : Option Nat) (m0 : Nat) (s0 : Tmp) (G : World → Prop) (i : Nat) (a : Act) (w : World) : Prop where
  dep : ∀ j s, depSlot ops i s j = true → T j (a.eval (.tmp s0)) w (a.eval (.tmp s))
  keep : ∀ s, keepSlot ops i s = true → a.eval (.tmp s) = a0.eval (.tmp s)
  pre : ∀ n, (∀ c, gc = some c → reachB ops n c i = true) → G w
  base : depB ops i m0 = true → T m0 (a.eval (.tmp s0)) w (a.eval (.tmp s0))
structure RGoodL (ops : Array Oper) (a0 : Act) (T : Nat → Value → World → Value → Prop) (Inv : Nat → World → Prop) (kill : Nat → Option Nat) (gc : Option Nat) (gd : Nat → Bool) (s0 : Tmp) (G : World → Prop) (H : Nat → Value → World → Prop) (k : Nat) (listed : Array Bool) (a : Act) (w : World) : Prop where
  size : a.tmps.size = a0.tmps.size
  defers : a.defers = a0.defers
  inv : Inv k w
  lsize : listed.size = ops.size
  closed : ∀ i j, listed.getD i false = true → depB ops i j = true → listed.getD j false = true
  done : ∀ i d, dstOf ops i = some d → listed.getD i false = true → (∀ c, kill i = some c → listed.getD c false = false) → T i (a.eval (.tmp s0)) w (a.eval (.tmp d))
  todo : ∀ s, (∀ i, dstOf ops i = some s → listed.getD i false = false) → a.eval (.tmp s) = a0.eval (.tmp s)
  pre : (∀ c, gc = some c → listed.getD c false = false) → G w
  post : ∀ c, gd c = true → listed.getD c false = true → H c (a.eval (.tmp s0)) w

def ROneL (P : Program) (ops : Array Oper) (a0 : Act) (T : Nat → Value → World → Value → Prop) (Inv : Nat → World → Prop) (Rel : Nat → World → World → Prop) (gc : Option Nat) (gd : Nat → Bool) (m0 : Nat) (s0 : Tmp) (G : World → Prop) (H : Nat → Value → World → Prop) (i : Nat) (o : Oper) : Prop :=
  ∀ (a : Act) (k : Nat) (w : World) (K : Act → World → Prop) (Q : Exit → Act → World → Prop), k < ops.size → Inv k w → RPreL ops a0 T gc m0 s0 G i a w →
    (∀ v w', T i (if i = m0 then v else a.eval (.tmp s0)) w' v → Rel i w w' → Inv (k + 1) w' → (gd i = true → H i (a.eval (.tmp s0)) w') → K (a.put o.dst v) w') → if Region.wanted o (yielded ops a.tmps) = true then o.wp P a w K Q else K (a.put o.dst undef) w

section
variable {P : Program} {ops : Array Oper} {n : Nat} {a0 : Act} {T : Nat → Value → World → Value → Prop} {Inv : Nat → World → Prop} {Rel : Nat → World → World → Prop} {kill : Nat → Option Nat} {gc : Option Nat} {gd : Nat → Bool} {m0 : Nat} {s0 : Tmp} {G : World → Prop} {H : Nat → Value → World → Prop}
theorem region_any_stepL (hok : okRegion ops a0.tmps.size = true) (hkill : okKill ops kill = true) (hstab : ∀ i j w w' v, Rel i w w' → kill j ≠ some i → j ≠ i → depB ops j i = false → (∀ c, kill j = some c → depB ops i c = false) → (∀ m, depB ops j m = true → depB ops m i = false) → ∀ u, T j u w v → T j u w' v)
    (hstabG : ∀ i w w', Rel i w w' → gc ≠ some i → (∀ c, gc = some c → depB ops i c = false) → G w → G w') (hm0 : dstOf ops m0 = some s0) (hdm : ∀ c, gd c = true → depB ops c m0 = true) (hkm : kill m0 = Option.none) (hTu : ∀ i u u' w v, depB ops i m0 = false → i ≠ m0 → T i u w v → T i u' w v) (hstabH : ∀ c i w w' u, gd c = true → Rel i w w' → c ≠ i → depB ops c i = false → H c u w → H c u w') (hone : ∀ i o, ops[i]? = some o → ROneL P ops a0 T Inv Rel gc gd m0 s0 G H i o) {Q : Exit → Act → World → Prop}
    (hQ : ∀ listed a w, (∀ i, i < ops.size → listed.getD i true = true) → RGoodL ops a0 T Inv kill gc gd s0 G H ops.size listed a w → Q .normal a w) :
    ∀ (fuel k : Nat) (listed : Array Bool) (a : Act) (w : World), k + fuel = ops.size → unl ops.size (fun i => !listed.getD i true) = fuel → RGoodL ops a0 T Inv kill gc gd s0 G H k listed a w → wpAny P .any ops Q fuel listed a w := by
  intro fuel
  induction fuel with
  | zero =>
    intro k listed a w hk hu hg
    have hall := unl_zero hu
    have hr : Region.ready .any ops listed = [] := by
      apply List.eq_nil_iff_forall_not_mem.2
      intro i hi
      obtain ⟨h1, h2, _⟩ := mem_ready_iff.1 hi
      have := hall i h1
      simp [h2] at this
    obtain rfl : k = ops.size := by omega
    exact ⟨hr, hQ listed a w (fun i hi => by simpa using hall i hi) hg⟩
  | succ fuel ih =>
    intro k listed a w hk hu hg
    refine ⟨fun hr => ?_, fun i hi => ?_⟩
    · exfalso
      have hex : ∃ i, i < ops.size ∧ listed.getD i true = false := by
        by_cases h : ∃ i, i < ops.size ∧ listed.getD i true = false
        · exact h
        · exfalso
          have : unl ops.size (fun i => !listed.getD i true) = 0 := by
            unfold unl
            rw [List.filter_eq_nil_iff.2]
            · rfl
            · intro j hj
              simp only [Bool.not_eq_true', Bool.not_eq_false]
              cases hh : listed.getD j true with
              | true => rfl
              | false => exact absurd ⟨j, List.mem_range.1 hj, hh⟩ h
          omega
      have hmin : ∀ m, (∃ i, i < m ∧ i < ops.size ∧ listed.getD i true = false) → ∃ i, i < ops.size ∧ listed.getD i true = false ∧ ∀ j, j < i → listed.getD j true = true := by
        intro m
        induction m with
        | zero => rintro ⟨i, h, _⟩; omega
        | succ m ihm =>
          rintro ⟨i, h1, h2, h3⟩
          by_cases h : ∃ i, i < m ∧ i < ops.size ∧ listed.getD i true = false
          · exact ihm h
          · refine ⟨i, h2, h3, fun j hj => ?_⟩
            cases hh : listed.getD j true with
            | true => rfl
            | false => exact absurd ⟨j, by omega, by omega, hh⟩ h
      obtain ⟨i, h1, h2⟩ := hex
      obtain ⟨i, h1, h2, h3⟩ := hmin (i + 1) ⟨i, by omega, h1, h2⟩
      have := ready_first hok hg.lsize h1 h2 h3
      rw [hr] at this
      cases this
    · obtain ⟨h1, h2, h3⟩ := mem_ready_iff.1 hi
      have hli : listed.getD i false = false := by
        rw [Array.getD_eq_getD_getElem?, Array.getElem?_eq_getElem (by rw [hg.lsize]; exact h1)] at h2 ⊢
        exact h2
      have hdeps : ∀ j, depB ops i j = true → listed.getD j false = true := by
        intro j hd
        simp only [depB, Array.getElem?_eq_getElem h1, Option.map_some, Option.getD_some] at hd
        obtain ⟨e, he, hd⟩ := Array.any_eq_true.1 hd
        rw [Array.getElem?_eq_getElem h1] at h3
        simp only [Option.map_some, Option.getD_some] at h3
        have := Array.all_eq_true.1 h3 e he
        simp only [Bool.and_eq_true, beq_iff_eq] at hd
        rw [hd.1, hd.2] at this
        simpa using this
      have hpre : RPreL ops a0 T gc m0 s0 G i a w := by
        refine ⟨fun j s hd => ?_, fun s hs => ?_, fun n hpr => hg.pre fun c hc => ?_, fun hd => hg.done m0 s0 hm0 (hdeps m0 hd) (fun c hc => by rw [hkm] at hc; cases hc)⟩
        · simp only [depSlot, Bool.and_eq_true, beq_iff_eq] at hd
          have hd1 := readB_dep hd.1
          refine hg.done j s hd.2 (hdeps j hd1) (fun c hc => ?_)
          have hji := okRegion_dep hok hd1
          have := List.all_eq_true.1 (List.all_eq_true.1 hkill i (List.mem_range.2 hji.2)) j (List.mem_range.2 (by omega))
          simp only [hd.1, hc, Bool.not_true, Bool.false_or, Bool.or_eq_true, beq_iff_eq] at this
          rcases this with rfl | hci
          · exact hli
          · cases hh : listed.getD c false with
            | false => rfl
            | true =>
              have := hg.closed c i hh hci
              rw [hli] at this
              cases this
        · refine hg.todo s (fun j hj => ?_)
          have hjs : j < ops.size := by
            unfold dstOf at hj
            cases ho : ops[j]? with
            | none => simp [ho] at hj
            | some o => exact (Array.getElem?_eq_some_iff.1 ho).1
          have := List.all_eq_true.1 hs j (List.mem_range.2 hjs)
          simp only [hj, bne_self_eq_false, Bool.false_or] at this
          cases hh : listed.getD j false with
          | false => rfl
          | true =>
            have := hg.closed j i hh this
            rw [hli] at this
            cases this
        · cases hh : listed.getD c false with
          | false => rfl
          | true =>
            have := reach_listed hg.closed n c i hh (hpr c hc)
            rw [hli] at this
            cases this
      have hgood : ∀ v w', T i (if i = m0 then v else a.eval (.tmp s0)) w' v → Rel i w w' → Inv (k + 1) w' → (gd i = true → H i (a.eval (.tmp s0)) w') → RGoodL ops a0 T Inv kill gc gd s0 G H (k + 1) (listed.setIfInBounds i true) (a.put ((ops[i]?).bind (·.dst)) v) w' := by
        intro v w' hT hR hI hH
        have hset : ∀ j, (listed.setIfInBounds i true).getD j false = if j = i then true else listed.getD j false := by
          intro j
          simp only [Array.getD_eq_getD_getElem?, Array.getElem?_setIfInBounds]
          by_cases hji : j = i
          · subst hji; simp [hg.lsize, h1]
          · rw [if_neg (fun e => hji e.symm), if_neg hji]
        have hkeep : i ≠ m0 → (a.put ((ops[i]?).bind (·.dst)) v).eval (.tmp s0) = a.eval (.tmp s0) := fun hne => by
          cases h : (ops[i]?).bind (·.dst) with
          | none => rfl
          | some d' =>
            rw [eval_put, if_neg]
            rintro ⟨rfl, _⟩
            exact hne (okRegion_uniq hok h hm0)
        have hu : (a.put ((ops[i]?).bind (·.dst)) v).eval (.tmp s0) = if i = m0 then v else a.eval (.tmp s0) := by
          by_cases e : i = m0
          · rw [if_pos e]
            have hd' : (ops[i]?).bind (·.dst) = some s0 := by rw [e]; exact hm0
            rw [hd', eval_put, if_pos ⟨rfl, by rw [hg.size]; exact (okRegion_dst hok (by rw [e] at hd'; exact hd')).1⟩]
          · rw [if_neg e]; exact hkeep e
        refine ⟨?_, ?_, hI, by simpa using hg.lsize, ?_, ?_, ?_, fun hpr => hstabG i w w' hR (fun e => ?_) (fun c hc => ?_) (hg.pre fun c hc => ?_), fun c hc hl => ?_⟩
        · cases h : (ops[i]?).bind (·.dst) <;> simpa [Act.put] using hg.size
        · cases h : (ops[i]?).bind (·.dst) <;> simpa [Act.put] using hg.defers
        · intro x y hx hd
          rw [hset] at hx ⊢
          by_cases hyi : y = i
          · rw [if_pos hyi]
          · rw [if_neg hyi]
            by_cases hxi : x = i
            · subst hxi; exact hdeps y hd
            · rw [if_neg hxi] at hx; exact hg.closed x y hx hd
        · intro x d hd hx hkx
          rw [hset] at hx
          by_cases hxi : x = i
          · subst hxi
            have hd' : (ops[x]?).bind (·.dst) = some d := hd
            have ev : (a.put ((ops[x]?).bind (·.dst)) v).eval (.tmp d) = v := by rw [hd', eval_put, if_pos ⟨rfl, by rw [hg.size]; exact (okRegion_dst hok hd).1⟩]
            rw [hu, ev]
            exact hT
          · rw [if_neg hxi] at hx
            have hv : (a.put ((ops[i]?).bind (·.dst)) v).eval (.tmp d) = a.eval (.tmp d) := by
              cases h : (ops[i]?).bind (·.dst) with
              | none => rfl
              | some d' =>
                rw [eval_put, if_neg]
                rintro ⟨rfl, _⟩
                exact hxi (okRegion_uniq hok hd h)
            rw [hv, hu]
            suffices hs : T x (a.eval (.tmp s0)) w' (a.eval (.tmp d)) by
              by_cases e : i = m0
              · rw [if_pos e]
                refine hTu _ _ _ _ _ ?_ (fun e2 => hxi (e2.trans e.symm)) hs
                cases hh : depB ops x m0 with
                | false => rfl
                | true =>
                  have := hg.closed x m0 hx hh
                  rw [← e, hli] at this
                  cases this
              · rw [if_neg e]; exact hs
            refine hstab _ _ _ _ _ hR (fun e => ?_) hxi ?_ (fun c hc => ?_) (fun m hm => ?_) _ (hg.done x d hd hx (fun c hc => ?_))
            · have := hkx i e
              rw [hset, if_pos rfl] at this
              cases this
            · cases hh : depB ops x i with
              | false => rfl
              | true =>
                have := hg.closed x i hx hh
                rw [hli] at this
                cases this
            · cases hh : depB ops i c with
              | false => rfl
              | true =>
                have hl1 := hdeps c hh
                have hl2 := hkx c hc
                rw [hset] at hl2
                by_cases hci : c = i
                · subst hci; exact Bool.noConfusion (hl1.symm.trans hli)
                · rw [if_neg hci, hl1] at hl2; cases hl2
            · cases hh : depB ops m i with
              | false => rfl
              | true =>
                have := hg.closed m i (hg.closed x m hx hm) hh
                rw [hli] at this
                cases this
            · have := hkx c hc
              rw [hset] at this
              by_cases hci : c = i
              · subst hci; exact hli
              · rwa [if_neg hci] at this
        · intro s hs
          have hsi : dstOf ops i ≠ some s := fun e => by
            have := hs i e
            rw [hset, if_pos rfl] at this
            cases this
          have hv : (a.put ((ops[i]?).bind (·.dst)) v).eval (.tmp s) = a.eval (.tmp s) := by
            cases h : (ops[i]?).bind (·.dst) with
            | none => rfl
            | some d' =>
              rw [eval_put, if_neg]
              rintro ⟨rfl, _⟩
              exact hsi h
          rw [hv]
          refine hg.todo s (fun j hj => ?_)
          have := hs j hj
          rw [hset] at this
          by_cases hji : j = i
          · subst hji; exact hli
          · rwa [if_neg hji] at this
        · have := hpr i e
          rw [hset, if_pos rfl] at this
          cases this
        · cases hh : depB ops i c with
          | false => rfl
          | true =>
            have h1 := hdeps c hh
            have := hpr c hc
            rw [hset] at this
            by_cases hci : c = i
            · subst hci; rw [if_pos rfl] at this; cases this
            · rw [if_neg hci, h1] at this; cases this
        · have := hpr c hc
          rw [hset] at this
          by_cases hji : c = i
          · subst hji; exact hli
          · rwa [if_neg hji] at this
        · rw [hset] at hl
          by_cases hci : c = i
          · subst hci
            rw [hkeep (fun e => by
              have := hdeps m0 (hdm c hc)
              rw [← e, hli] at this
              cases this)]
            exact hH hc
          · rw [if_neg hci] at hl
            rw [hkeep (fun e => by
              have := hg.closed c m0 hl (hdm c hc)
              rw [← e, hli] at this
              cases this)]
            refine hstabH c i w w' _ hc hR hci ?_ (hg.post c hc hl)
            cases hh : depB ops c i with
            | false => rfl
            | true =>
              have := hg.closed c i hl hh
              rw [hli] at this
              cases this
      have hunl : unl ops.size (fun j => !(listed.setIfInBounds i true).getD j true) = fuel := by
        have := unl_set (p := fun j => !listed.getD j true) (p' := fun j => !(listed.setIfInBounds i true).getD j true) (i := i) (by simp [h2]) (by
          simp [Array.getD_eq_getD_getElem?, Array.getElem?_setIfInBounds, hg.lsize, h1]) (fun j hj => by
          simp only [Array.getD_eq_getD_getElem?, Array.getElem?_setIfInBounds]
          rw [if_neg (fun e => hj e.symm)]) ops.size
        rw [if_pos h1] at this
        omega
      have h := hone i ops[i] (Array.getElem?_eq_getElem h1) a k w (wpAny P .any ops Q fuel (listed.setIfInBounds i true)) Q (by omega) hg.inv hpre (fun v w' hT hR hI hH => by
        have := hgood v w' hT hR hI hH
        rw [Array.getElem?_eq_getElem h1] at this
        exact ih (k + 1) _ _ _ (by omega) hunl this)
      unfold wpOp
      rw [Array.getElem?_eq_getElem h1]
      simp only
      split
      · rename_i hw; rw [if_pos hw] at h; exact .inl h
      · rename_i hw; rw [if_neg hw] at h; exact h

/-- The obligations, an operation at a time. -/
def RAllL (P : Program) (ops : Array Oper) (a0 : Act) (T : Nat → Value → World → Value → Prop) (Inv : Nat → World → Prop) (Rel : Nat → World → World → Prop) (gc : Option Nat) (gd : Nat → Bool) (m0 : Nat) (s0 : Tmp) (G : World → Prop) (H : Nat → Value → World → Prop) : List Oper → Nat → Prop
  | [], _ => True
  | o :: l, i => ROneL P ops a0 T Inv Rel gc gd m0 s0 G H i o ∧ RAllL P ops a0 T Inv Rel gc gd m0 s0 G H l (i + 1)
theorem RAllL.at {l : List Oper} {i : Nat} (h : RAllL P ops a0 T Inv Rel gc gd m0 s0 G H l i) : ∀ (j : Nat) (o : Oper), l[j]? = some o → ROneL P ops a0 T Inv Rel gc gd m0 s0 G H (i + j) o := by
  induction l generalizing i with
  | nil => intro j o hj; simp at hj
  | cons o' l ih =>
    intro j o hj
    cases j with
    | zero => obtain rfl : o' = o := by simpa using hj
              exact h.1
    | succ j =>
      have := ih h.2 j o (by simpa using hj)
      rwa [show i + 1 + j = i + (j + 1) by omega] at this

theorem wp_region_draws2L (gc : Option Nat) (gd : Nat → Bool) (m0 : Nat) (s0 : Tmp) (G : World → Prop) (H : Nat → Value → World → Prop) (T : Nat → Value → World → Value → Prop) (Inv : Nat → World → Prop) (Rel : Nat → World → World → Prop) (kill : Nat → Option Nat) {id : Nat} {Q : Exit → Act → World → Prop} {w : World} {l : List Oper} (hm : P.follows .mixedOrders = true)
    (hok : okRegion l.toArray a0.tmps.size = true) (hkill : okKill l.toArray kill = true) (hstab : ∀ i j w w' v, Rel i w w' → kill j ≠ some i → j ≠ i → depB l.toArray j i = false → (∀ c, kill j = some c → depB l.toArray i c = false) → (∀ m, depB l.toArray j m = true → depB l.toArray m i = false) → ∀ u, T j u w v → T j u w' v) (hstabG : ∀ i w w', Rel i w w' → gc ≠ some i → (∀ c, gc = some c → depB l.toArray i c = false) → G w → G w') (hm0 : dstOf l.toArray m0 = some s0) (hdm : ∀ c, gd c = true → depB l.toArray c m0 = true) (hkm : kill m0 = Option.none) (hTu : ∀ i u u' w v, depB l.toArray i m0 = false → i ≠ m0 → T i u w v → T i u' w v) (hstabH : ∀ c i w w' u, gd c = true → Rel i w w' → c ≠ i → depB l.toArray c i = false → H c u w → H c u w') (hI : Inv 0 w.drew) (hG : G w.drew) (hone : RAllL P l.toArray a0 T Inv Rel gc gd m0 s0 G H l 0)
    (hQ : ∀ (f : Nat → Value) (w' : World), (∀ i, i < l.length → (dstOf l.toArray i).isSome = true → (kill i).isNone = true → T i (f m0) w' (f i)) → Inv l.length w' → (∀ c, gd c = true → c < l.length → H c (f m0) w') → Q .normal (putAll f l 0 a0) w') : (Code.region id l.toArray true).wp P Q a0 w := by
  refine wp_region_any hm (region_any_stepL (a0 := a0) (T := T) (Inv := Inv) (Rel := Rel) (kill := kill) (gc := gc) (gd := gd) (m0 := m0) (s0 := s0) (G := G) (H := H) hok hkill hstab hstabG hm0 hdm hkm hTu hstabH (fun i o ho => by
    have := RAllL.at hone i o (by simpa using ho)
    simpa using this) ?_ _ 0 _ a0 _ (by simp) ?_ ?_)
  · intro listed a w' hall hg
    have hlist : ∀ i, i < l.length → listed.getD i false = true := fun i hi => by
      have := hall i (by simpa using hi)
      rw [Array.getD_eq_getD_getElem?, Array.getElem?_eq_getElem (by rw [hg.lsize]; simpa using hi)] at this ⊢
      exact this
    have hlt : ∀ i d, dstOf l.toArray i = some d → i < l.length := fun i d hd => by
      unfold dstOf at hd
      cases ho : l.toArray[i]? with
      | none => simp [ho] at hd
      | some o => simpa using (Array.getElem?_eq_some_iff.1 ho).1
    have he : a = putAll (fun i => a.eval (.tmp ((dstOf l.toArray i).getD 0))) l 0 a0 := by
      have hp := putAll_defers (fun i => a.eval (.tmp ((dstOf l.toArray i).getD 0))) l 0 a0
      refine act_ext (hg.size.trans hp.2.symm) (hg.defers.trans hp.1.symm) (fun s hs => ?_)
      by_cases h : ∃ i, dstOf l.toArray i = some s
      · obtain ⟨i, hi⟩ := h
        have hi' := hi
        unfold dstOf at hi'
        cases ho : l.toArray[i]? with
        | none => simp [ho] at hi'
        | some o =>
          simp only [ho, Option.bind_some] at hi'
          rw [putAll_some _ l 0 a0 s i o (by simpa using ho) hi' (fun j o' ho' hd' => okRegion_uniq hok (d := s) (by simp [dstOf, ho', hd']) hi) (by rw [← hg.size]; exact hs)]
          simp [hi]
      · rw [putAll_none _ l 0 a0 s (fun j o ho hd => h ⟨j, by simp [dstOf, ho, hd]⟩)]
        exact hg.todo s (fun i hi => absurd ⟨i, hi⟩ h)
    rw [he]
    refine hQ _ _ (fun i hi hs hk => ?_) (by simpa using hg.inv) (fun c hc hl => by
      have := hg.post c hc (hlist c hl)
      simp only [hm0, Option.getD_some]
      exact this)
    obtain ⟨d, hd⟩ := Option.isSome_iff_exists.1 hs
    simp only [hd, hm0, Option.getD_some]
    exact hg.done i d hd (hlist i hi) (fun c hc => by rw [hc] at hk; cases hk)
  · have : ∀ N, unl N (fun i => !(Array.replicate N false).getD i true) = N := by
      intro N
      unfold unl
      rw [List.filter_eq_self.2]
      · simp
      · intro i hi
        simp [Array.getD_eq_getD_getElem?, List.mem_range.1 hi]
    exact this _
  · refine ⟨rfl, rfl, hI, by simp, ?_, ?_, fun _ _ => rfl, fun _ => hG, fun c _ h => ?_⟩
    · intro i j h
      simp [Array.getD_eq_getD_getElem?, Array.getElem?_replicate] at h
      split at h <;> simp at h
    · intro i d _ h _
      simp [Array.getD_eq_getD_getElem?, Array.getElem?_replicate] at h
      split at h <;> simp at h
    · simp [Array.getD_eq_getD_getElem?, Array.getElem?_replicate] at h
      split at h <;> simp at h

end
section
variable {P : Program} {ops : Array Oper} {a0 : Act} {T : Nat → Value → World → Value → Prop} {Inv : Nat → World → Prop} {Rel : Nat → World → World → Prop} {gc : Option Nat} {gd : Nat → Bool} {m0 : Nat} {s0 : Tmp} {G : World → Prop} {H : Nat → Value → World → Prop}
theorem RAllL.none_ {i : Nat} : RAllL P ops a0 T Inv Rel gc gd m0 s0 G H [] i := trivial
theorem RAllL.cons {o : Oper} {l : List Oper} {i : Nat} (hg : o.guard = Option.none) (h : ∀ (a : Act) (k : Nat) (w : World) (K : Act → World → Prop) (Q : Exit → Act → World → Prop), k < ops.size → Inv k w → RPreL ops a0 T gc m0 s0 G i a w →
    (∀ v w', T i (if i = m0 then v else a.eval (.tmp s0)) w' v → Rel i w w' → Inv (k + 1) w' → (gd i = true → H i (a.eval (.tmp s0)) w') → K (a.put o.dst v) w') → o.wp P a w K Q) (hl : RAllL P ops a0 T Inv Rel gc gd m0 s0 G H l (i + 1)) : RAllL P ops a0 T Inv Rel gc gd m0 s0 G H (o :: l) i :=
  ⟨fun a k w K Q h1 h2 h3 h4 => by
    have : Region.wanted o (yielded ops a.tmps) = true := by simp [Region.wanted, hg]
    rw [if_pos this]
    exact h a k w K Q h1 h2 h3 h4, hl⟩
end
end Go.Proofs.Ytodjokdaofefdaa
/- Guards that are added, by the program: what is done with each expression. -/
namespace Go.Proofs.Ytodjokdaofefdaa
set_option linter.unusedSimpArgs false
set_option linter.unusedVariables false
open Go.RowKit

theorem grown_of_belowG {w w' : World} (h : Below w.heap.size w w') (row : Option Nat) : w.grownBy w' row := ⟨h.os, h.tape, h.output, h.size, fun k hk _ => h.block k hk⟩
noncomputable def adL (pre : ExL) : ExL := pre.foldl (fun l x => addI x l) []
theorem adL_snoc (pre : ExL) (x : Ex) : adL (pre ++ [x]) = addI x (adL pre) := by rw [adL, List.foldl_append]; rfl
theorem addI_len (t : Ex) (l : ExL) : (addI t l).length ≤ l.length + 1 := by
  unfold addI
  split <;> simp
theorem adL_len (pre : ExL) : (adL pre).length ≤ pre.length := by
  have : ∀ (q l : ExL), (q.foldl (fun l x => addI x l) l).length ≤ l.length + q.length := by
    intro q
    induction q with
    | nil => intro l; simp
    | cons a q ih =>
      intro l
      have h1 := ih (addI a l)
      have h2 := addI_len a l
      rw [List.foldl_cons, List.length_cons]
      omega
  have h := this pre []
  simpa [adL] using h
def as7 (pre : ExL) : Bool := pre.any fun x => decide (x.k = 7)
theorem as7_snoc (pre : ExL) (x : Ex) : as7 (pre ++ [x]) = (as7 pre || decide (x.k = 7)) := by simp [as7]
/-- The two boxes of GuardedBy. -/
def GiP (D n0 b4 b5 : Nat) (y : Bool) (gl : ExL) (w : World) : Prop := (n0 ≤ b4 ∧ b4 < b5) ∧ w.heap[b4]? = some (.cells #[.bool y] 4 (0, 0)) ∧
  ∃ A c, w.heap[b5]? = some (.cells #[.slice A gl.length c] 26 (0, 0)) ∧ OwnE (D + 1) n0 (b5 + 1) gl w (.slice A gl.length c)
/-- All expressions of pre having come. -/
def GiJ (D n0 b4 b5 : Nat) (pre : ExL) (w : World) : Prop := GiP D n0 b4 b5 (as7 pre) (adL pre) w
/-- What may turn. -/
def GiM (b4 b5 : Nat) (w : World) (k : Nat) : Prop := k = b4 ∨ k = b5 ∨ ∃ v, w.heap[b5]? = some (.cells #[v] 26 (0, 0)) ∧ v.ownBlock = some k
structure GiF (b4 b5 : Nat) (w w' : World) : Prop where
  os : w'.os = w.os
  tape : w'.tape = w.tape
  output : w'.output = w.output
  size : w.heap.size ≤ w'.heap.size
  keep : ∀ k, k < w.heap.size → ¬ GiM b4 b5 w k → w'.heap[k]? = w.heap[k]?
  may : ∀ k, GiM b4 b5 w' k → GiM b4 b5 w k ∨ w.heap.size ≤ k
theorem GiF.refl (b4 b5 : Nat) (w : World) : GiF b4 b5 w w := ⟨rfl, rfl, rfl, Nat.le_refl _, fun _ _ _ => rfl, fun _ h => .inl h⟩
theorem GiF.trans {b4 b5 : Nat} {a b c : World} (h : GiF b4 b5 a b) (h2 : GiF b4 b5 b c) : GiF b4 b5 a c := by
  refine ⟨h2.os.trans h.os, h2.tape.trans h.tape, h2.output.trans h.output, Nat.le_trans h.size h2.size, fun k hk hm => ?_, fun k hm => ?_⟩
  · refine (h2.keep k (Nat.lt_of_lt_of_le hk h.size) (fun hb => ?_)).trans (h.keep k hk hm)
    rcases h.may k hb with hb | hb
    · exact hm hb
    · omega
  · rcases h2.may k hm with hm | hm
    · exact h.may k hm
    · exact .inr (Nat.le_trans h.size hm)
theorem GiF.ofBelow {b4 b5 : Nat} {w w' : World} (hb : Below w.heap.size w w') (h5 : b5 < w.heap.size) : GiF b4 b5 w w' :=
  ⟨hb.os, hb.tape, hb.output, hb.size, fun k hk _ => hb.block k hk, fun k hm => by
    rcases hm with hm | hm | ⟨v, hv, hk⟩
    · exact .inl (.inl hm)
    · exact .inl (.inr (.inl hm))
    · rw [hb.block _ h5] at hv; exact .inl (.inr (.inr ⟨v, hv, hk⟩))⟩
section
variable {D n0 b4 b5 : Nat} {y : Bool} {gl : ExL} {w w' : World}
theorem GiP.lt (h : GiP D n0 b4 b5 y gl w) : b5 < w.heap.size := by
  obtain ⟨_, _, A, c, h5, _⟩ := h
  exact (Array.getElem?_eq_some_iff.1 h5).1
theorem GiP.below (h : GiP D n0 b4 b5 y gl w) (hb : Below w.heap.size w w') : GiP D n0 b4 b5 y gl w' := by
  obtain ⟨h0, h4, A, c, h5, hO⟩ := h
  exact ⟨h0, block_below h4 hb, A, c, block_below h5 hb, hO.below hb⟩
theorem GiP.m (h : GiP D n0 b4 b5 y gl w) (k : Nat) (hm : GiM b4 b5 w k) : n0 ≤ k ∧ k < w.heap.size := by
  obtain ⟨h0, h4, A, c, h5, hO⟩ := h
  have l4 := (Array.getElem?_eq_some_iff.1 h4).1
  have l5 := (Array.getElem?_eq_some_iff.1 h5).1
  rcases hm with rfl | rfl | ⟨v, hv, hk⟩
  · exact ⟨h0.1, l4⟩
  · exact ⟨by omega, l5⟩
  · rw [h5] at hv
    simp only [Option.some.injEq, Obj.cells.injEq, and_true] at hv
    have e : (Value.slice A gl.length c) = v := by simpa using hv
    rw [← e] at hk
    have := hO.2.ge k hk
    exact ⟨by omega, this.2⟩
theorem OwnE.grown {N B : Nat} {l : ExL} {v : Value} {row : Option Nat} (h : OwnE D N B l w v) (hg : w.grownBy w' row) (hr : ∀ k, row = some k → N ≤ k) (hv : ∀ k, v.ownBlock = some k → row ≠ some k) : OwnE D N B l w' v :=
  ⟨⟨Nat.le_trans h.1.1 hg.size, h.1.2⟩, h.2.kept hg hv (fun _ _ g => exR.row h.1.1 hg hr g)⟩
/-- The first box is written, a box is laid. -/
theorem GiP.asks {bb : Bool} {o : Obj} (h : GiP D n0 b4 b5 y gl w) : GiP D n0 b4 b5 bb gl ((w.setCell ⟨b4, 0, none⟩ (.bool bb)).alloc o) ∧ GiF b4 b5 w ((w.setCell ⟨b4, 0, none⟩ (.bool bb)).alloc o) := by
  have hlt := h.lt
  obtain ⟨h0, h4, A, c, h5, hO⟩ := h
  have hg := setCells_grown b4 [.bool bb] w 0
  have hbl := below_alloc (w.setCell ⟨b4, 0, none⟩ (.bool bb)) o
  have e5 : (w.setCell ⟨b4, 0, none⟩ (.bool bb)).heap[b5]? = w.heap[b5]? := Below.heap_setCell w ⟨b4, 0, none⟩ (.bool bb) b5 (by show b5 ≠ b4; omega)
  have hF : GiF b4 b5 w (w.setCell ⟨b4, 0, none⟩ (.bool bb)) := ⟨rfl, rfl, rfl, by simp [World.setCell], fun k hk hm => Below.heap_setCell w ⟨b4, 0, none⟩ (.bool bb) k (fun e => hm (.inl e)), fun k hm => .inl (by
    rcases hm with hm | hm | ⟨v, hv, hk⟩
    · exact .inl hm
    · exact .inr (.inl hm)
    · rw [e5] at hv; exact .inr (.inr ⟨v, hv, hk⟩))⟩
  have hs : (w.setCell ⟨b4, 0, none⟩ (.bool bb)).heap.size = w.heap.size := by simp [World.setCell]
  have hP : GiP D n0 b4 b5 bb gl (w.setCell ⟨b4, 0, none⟩ (.bool bb)) := ⟨h0, setCells_atG [.bool bb] 0 h4 (by simp), A, c, e5.trans h5, hO.grown hg (fun k e => by cases e; exact h0.1) (fun k hk e => by cases e; have := (hO.2.ge _ hk).1; omega)⟩
  exact ⟨hP.below hbl, hF.trans (GiF.ofBelow hbl (by omega))⟩
end
/-- What lay ahead of an append lies as it lay. -/
structure GiFr (V : World) (b5 : Nat) (old : Value) (w : World) : Prop where
  os : w.os = V.os
  tape : w.tape = V.tape
  output : w.output = V.output
  size : V.heap.size ≤ w.heap.size
  keep : ∀ k, k < V.heap.size → k ≠ b5 → old.ownBlock ≠ some k → w.heap[k]? = V.heap[k]?
theorem GiFr.grown {V w w' : World} {b5 : Nat} {old : Value} {row : Option Nat} (h : GiFr V b5 old w) (hg : w.grownBy w' row) (hr : ∀ k, row = some k → k = b5 ∨ old.ownBlock = some k ∨ V.heap.size ≤ k) : GiFr V b5 old w' :=
  ⟨hg.os.trans h.os, hg.tape.trans h.tape, hg.output.trans h.output, Nat.le_trans h.size hg.size, fun k hk h5 ho => (hg.block k (Nat.lt_of_lt_of_le hk h.size) (fun e => by
    rcases hr k e.symm with e | e | e
    · exact h5 e
    · exact ho e
    · omega)).trans (h.keep k hk h5 ho)⟩
def GiT (V : World) (D n0 b5 : Nat) (old : Value) (gl : ExL) (w : World) (v : Value) : Prop := GiFr V b5 old w ∧ (∃ u, w.heap[b5]? = some (.cells #[u] 26 (0, 0))) ∧
  ∃ g c xs, v = .slice (some ⟨g, 0, none⟩) (gl.length + 1) c ∧ (old.ownBlock = some g ∨ V.heap.size ≤ g) ∧ w.ownsRow (b5 + 1) 28 4 (.slice (some ⟨g, 0, none⟩) (gl.length + 1) c) (gl.length + 1) xs ∧ Chunks (exR (D + 1) 0 n0 w) 4 gl (xs.take (gl.length * 4))
def GiH (D n0 b5 : Nat) (gl : ExL) (x : Ex) (u : Value) (w : World) : Prop := ∃ xs, w.ownsRow (b5 + 1) 28 4 u (gl.length + 1) xs ∧ Chunks (exR (D + 1) 0 n0 w) 4 (gl ++ [x]) xs
def GiB (b5 : Nat) (u : Value) (w : World) : Prop := w.heap[b5]? = some (.cells #[u] 26 (0, 0))
/-- The row of an append is written behind n elements. -/
def Q7 (V : World) (b5 n : Nat) (old : Value) (w w' : World) : Prop := ∃ g vs, w' = setCells w g (n * 4) vs ∧ vs.length = 4 ∧ b5 < g ∧ (old.ownBlock = some g ∨ V.heap.size ≤ g)
def Q8 (b5 : Nat) (w w' : World) : Prop := ∃ u, w' = setCells w b5 0 [u]
section
variable {V w w' : World} {D n0 b5 : Nat} {old v u : Value} {gl : ExL} {x : Ex}
theorem GiT.below (hn : n0 ≤ b5) (h : GiT V D n0 b5 old gl w v) (hb : Below w.heap.size w w') : GiT V D n0 b5 old gl w' v := by
  obtain ⟨h1, ⟨u, h2⟩, g, c, xs, e, h3, h4, h5⟩ := h
  have hlt := (Array.getElem?_eq_some_iff.1 h2).1
  exact ⟨h1.grown (grown_of_belowG hb Option.none) (fun k e => by cases e), ⟨u, block_below h2 hb⟩, g, c, xs, e, h3, own_below h4 hb, h5.mono (fun _ _ q => exR.below q (by omega) hb)⟩
theorem GiT.st7 (hn : n0 ≤ b5) (h : GiT V D n0 b5 old gl w v) (hq : Q7 V b5 gl.length old w w') : GiT V D n0 b5 old gl w' v := by
  obtain ⟨h1, ⟨u, h2⟩, g, c, xs, e, h3, h4, h5⟩ := h
  obtain ⟨g', vs, rfl, hvs, hg', ho'⟩ := hq
  have hlt := (Array.getElem?_eq_some_iff.1 h2).1
  have hg := setCells_grown g' vs w (gl.length * 4)
  have hx := h4.1
  refine ⟨h1.grown hg (fun k e => by cases e; exact .inr ho'), ⟨u, (hg.block b5 hlt (fun e => by cases e; omega)).trans h2⟩, g, c, ?_⟩
  have hch := h5.mono (fun _ _ q => exR.row (show n0 ≤ w.heap.size by omega) hg (fun k e => by cases e; omega) q)
  by_cases eg : g' = g
  · subst eg
    refine ⟨_, e, h3, own_stores vs (gl.length * 4) h4 (by rw [hvs]; omega), ?_⟩
    rw [List.append_assoc, List.take_append_of_le_length (by rw [List.length_take]; omega), List.take_take, Nat.min_self]
    exact hch
  · exact ⟨xs, e, h3, own_apart h4 hg (fun k hk => by simp only [Value.ownBlock, Option.some.injEq] at hk; omega), hch⟩
theorem GiT.st8 (hn : n0 ≤ b5) (h : GiT V D n0 b5 old gl w v) (hq : Q8 b5 w w') : GiT V D n0 b5 old gl w' v := by
  obtain ⟨h1, ⟨u, h2⟩, g, c, xs, e, h3, h4, h5⟩ := h
  obtain ⟨u', rfl⟩ := hq
  have hlt := (Array.getElem?_eq_some_iff.1 h2).1
  have hg := setCells_grown b5 [u'] w 0
  exact ⟨h1.grown hg (fun k e => by cases e; exact .inl rfl), ⟨u', setCells_atG [u'] 0 h2 (by simp)⟩, g, c, xs, e, h3, own_apart h4 hg (fun k hk => by have := (h4.lt k hk).1; omega), h5.mono (fun _ _ q => exR.row (show n0 ≤ w.heap.size by omega) hg (fun k e => by cases e; omega) q)⟩
theorem GiH.st8 (hn : n0 ≤ b5) (h : GiH D n0 b5 gl x u w) (hq : Q8 b5 w w') : GiH D n0 b5 gl x u w' := by
  obtain ⟨xs, h4, h5⟩ := h
  obtain ⟨g9, cap9, hv9, hB9, hs9⟩ := h4.form (by omega)
  obtain ⟨u', rfl⟩ := hq
  have hg := setCells_grown b5 [u'] w 0
  exact ⟨xs, own_apart h4 hg (fun k hk => by have := (h4.lt k hk).1; omega), h5.mono (fun _ _ q => exR.row (show n0 ≤ w.heap.size by omega) hg (fun k e => by cases e; omega) q)⟩
theorem GiH.below (hn : n0 ≤ b5) (h : GiH D n0 b5 gl x u w) (hb : Below w.heap.size w w') : GiH D n0 b5 gl x u w' := by
  obtain ⟨xs, h4, h5⟩ := h
  obtain ⟨g9, cap9, hv9, hB9, hs9⟩ := h4.form (by omega)
  exact ⟨xs, own_below h4 hb, h5.mono (fun _ _ q => exR.below q (by omega) hb)⟩
theorem GiB.st7 {n : Nat} (h : GiB b5 u w) (hq : Q7 V b5 n old w w') : GiB b5 u w' := by
  obtain ⟨g', vs, rfl, hvs, hg', ho'⟩ := hq
  have hlt := (Array.getElem?_eq_some_iff.1 h).1
  exact ((setCells_grown g' vs w (n * 4)).block b5 hlt (fun e => by cases e; omega)).trans h
end
theorem cell1 {w : World} {g : Nat} {T : TypeId} {a : Value} (h : w.heap[g]? = some (.cells #[a] T (0, 0))) : w.cell? ⟨g, 0, none⟩ = some a ∧ w.frozen? ⟨g, 0, none⟩ = false := ⟨(cell_of_row w g 0 _ _ _ h).trans rfl, frozen_of_row w g 0 _ _ h⟩
theorem exR.zero {d lo hi : Nat} {w : World} : exR (d + 1) lo hi w exD [.int .i64 0, .int .i64 0, .string ⟨#[]⟩, .slice Option.none 0 0] := ⟨Option.none, 0, rfl, RdL.nil _, fun h => absurd h (by decide), by decide⟩
end Go.Proofs.Ytodjokdaofefdaa
