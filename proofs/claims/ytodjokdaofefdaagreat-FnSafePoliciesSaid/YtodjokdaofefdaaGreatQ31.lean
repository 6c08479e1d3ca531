/- Expressions: what is drawn, as trees. -/
import Derived.Test.YtodjokdaofefdaaGreatQ27
import Derived.Test.YtodjokdaofefdaaGreatQ29
import Derived.Test.YtodjokdaofefdaaGreatQ30
import Derived.Test.YtodjokdaofefdaaGreatQ28
import Derived.Test.YtodjokdaofefdaaGreatQ2
import Derived.Test.YtodjokdaofefdaaGreatQ18
import Derived.Test.YtodjokdaofefdaaGreatQ20
import Derived.Test.YtodjokdaofefdaaGreatQ12
import Derived.Test.YtodjokdaofefdaaGreatQ8
namespace Go.Proofs.YtodjokdaofefdaaGreat
set_option linter.unusedSimpArgs false
set_option linter.unusedVariables false
open Go.RowKit

/-- At most two parts each, m deep, with short names. -/
def shE : Nat → ExL → Prop
  | 0, l => l = []
  | m + 1, l => l.length ≤ 2 ∧ ∀ p ∈ l, p.s.size ≤ 16 ∧ shE m p.ps
theorem shE_cnt : ∀ (m d : Nat) (l : ExL), shE m l → cntS d l + 2 ≤ 2 ^ (m + 1)
  | 0, d, l, h => by rw [show l = [] from h]; simp [cntS]
  | m + 1, d, l, ⟨h1, h2⟩ => by
    have hp : ∀ p ∈ l, cntR d p + 2 ≤ 2 ^ (m + 1) := fun p hp => by
      cases d with
      | zero => have : 2 ≤ 2 ^ (m + 1) := by rw [Nat.pow_succ]; have := Nat.one_le_two_pow (n := m); omega
                simpa [cntR] using this
      | succ d => exact shE_cnt m d p.ps (h2 p hp).2
    have hpow : 2 ^ (m + 1 + 1) = 2 ^ (m + 1) + 2 ^ (m + 1) := by rw [Nat.pow_succ]; omega
    match l, h1, hp with
    | [], _, _ => have := Nat.one_le_two_pow (n := m + 1); simp only [cntS, List.length_nil, List.map_nil, List.sum_nil]; omega
    | [a], _, hp => have := hp a (by simp); have := Nat.one_le_two_pow (n := m + 1); simp only [cntS, List.length_cons, List.length_nil, List.map_cons, List.map_nil, List.sum_cons, List.sum_nil]; omega
    | [a, b], _, hp => have h3 := hp a (by simp); have h4 := hp b (by simp); simp only [cntS, List.length_cons, List.length_nil, List.map_cons, List.map_nil, List.sum_cons, List.sum_nil]; omega
    | _ :: _ :: _ :: _, h1, _ => simp at h1
theorem shp_ex : ∀ m, m ≤ 5 → shp exTab (3 + m) = (36, exRow m)
  | 0, _ => rfl
  | 1, _ => rfl
  | 2, _ => rfl
  | 3, _ => rfl
  | 4, _ => rfl
  | 5, _ => rfl
  | n + 6, h => by omega
theorem ex_ok : okTab exTab = true := by kernel_rfl
theorem sl_blk {c : Ctx} {tab : Tab} {i lo hi n q : Nat} {A : Option Addr} {w : World} (h : cden c tab (.sl i lo hi) w (.slice A n q)) : ∀ a, A = some a → c.B ≤ a.block ∧ a.block ≠ c.br ∧ a.block < w.heap.size := by
  intro a ha
  subst ha
  obtain ⟨h1 | ⟨g, o, n', q', e, _, _, _, h2⟩, _⟩ := h
  · cases h1
  · cases e
    exact ⟨h2.1, h2.2.1, (Array.getElem?_eq_some_iff.1 h2.2.2.choose_spec.1).1⟩
/-- Blocks of what is drawn. -/
def PDr (c : Ctx) (w : World) (k : Nat) : Prop := c.B ≤ k ∧ k ≠ c.br ∧ k < w.heap.size
theorem ex_dec {c : Ctx} {w : World} : ∀ (m : Nat), m ≤ 6 → ∀ (cs : List Value), RowK ((exRow m).map (cden c exTab)) w cs → ∃ t : Ex, (t.s.size ≤ 16 ∧ shE m t.ps) ∧ exP (PDr c w) (m + 1) w t cs
  | 0, _, cs, h => by
    obtain ⟨_, _, rfl, ⟨k, rfl⟩, _, _, rfl, ⟨n, rfl⟩, _, _, rfl, ⟨s, rfl, hs⟩, _, _, rfl, hv, rfl⟩ := h
    have hv : _ = Value.slice Option.none 0 0 := hv
    subst hv
    exact ⟨.nd k n s [], ⟨hs, rfl⟩, Option.none, 0, rfl, RdL.nil _, fun h => by simp [Ex.ps] at h, by show s.size ≤ _; omega⟩
  | m + 1, hm, cs, h => by
    obtain ⟨_, _, rfl, ⟨k, rfl⟩, _, _, rfl, ⟨n, rfl⟩, _, _, rfl, ⟨s, rfl, hs⟩, _, v, rfl, hv, rfl⟩ := h
    have hsh := shp_ex m (by omega)
    have hv2 : cden c exTab (.sl (3 + m) 0 2) w _ := hv
    obtain ⟨l, A, q, rfl, _, h1, h2, h3, _⟩ := sl_rd (R := exP (PDr c w) (m + 1)) (P := fun t => t.s.size ≤ 16 ∧ shE m t.ps) ex_ok (by rw [hsh]; exact ex_dec m (by omega)) (by decide) hv2
    have hb := sl_blk hv2
    rw [hsh] at h3
    exact ⟨.nd k n s l, ⟨hs, h1, h2⟩, A, q, rfl, h3, fun _ a ha => hb a ha, by show s.size ≤ _; omega⟩
theorem gd_sh : ∀ (d m : Nat) (t : Ex), gdR d t = true → dpR d t ≤ m + 1 → t.s.size ≤ 16 ∧ shE m t.ps
  | 0, _, _, h, _ => by cases h
  | d + 1, m, t, h, hd => by
    have h1 := gd_head h
    have hl := headB_len h1
    have hs : t.s.size ≤ 16 := by
      simp only [headB, Bool.and_eq_true, Bool.or_eq_true, beq_iff_eq] at h1
      obtain ⟨_, _, _, h2, h3⟩ := h1
      cases hn : nmK t.k
      · rw [hn] at h2
        have : t.s = ByteArray.empty := by simpa using h2.symm
        rw [this]; decide
      · rw [hn] at h3
        rcases h3 with h3 | h3
        · cases h3
        · simp only [nmOk, Bool.and_eq_true, inB_true] at h3
          omega
    rw [dpR] at hd
    have hparts : ∀ p ∈ t.ps, gdR d p = true ∧ dpR d p ≤ m := fun p hp => by
      obtain ⟨k, hk, rfl⟩ := List.getElem_of_mem hp
      have := gd_part h hk
      rw [exAt_eq hk] at this
      have h3 : mxL (t.ps.map (dpR d)) ≤ m := by omega
      exact ⟨this, mx_le.1 h3 _ (List.mem_map_of_mem hp)⟩
    refine ⟨hs, ?_⟩
    cases m with
    | zero =>
      show t.ps = []
      cases hps : t.ps with
      | nil => rfl
      | cons p l =>
        obtain ⟨g1, g2⟩ := hparts p (by rw [hps]; simp)
        cases d with
        | zero => cases g1
        | succ d => rw [dpR] at g2; omega
    | succ m => exact ⟨hl, fun p hp => gd_sh d m p (hparts p hp).1 (hparts p hp).2⟩
theorem gb_sh {d D : Nat} {r : Ex} {w : World} {A : Option Addr} (h : exW D w A (gbE d r).ps) : (gbE d r).s.size ≤ 16 ∧ shE 6 (gbE d r).ps := by
  cases hb : gbB d r
  · rw [gb_no hb]
    exact ⟨by decide, by decide, fun p hp => by cases hp⟩
  · have h1 : exOk (gbE d r) = true := by
      rw [gb_yes hb]
      rw [gbB] at hb
      simp only [Bool.and_eq_true] at hb
      exact hb.2.2
    rw [exOk_eq (exS_in h)] at h1
    simp only [Bool.and_eq_true, decide_eq_true_eq] at h1
    exact gd_sh _ 6 _ h1.1 h1.2.2
end Go.Proofs.YtodjokdaofefdaaGreat
/- Worlds, requests, expressions: what is drawn, as they read. -/
namespace Go.Proofs.YtodjokdaofefdaaGreat
set_option linter.unusedSimpArgs false
set_option linter.unusedVariables false
open Go.RowKit

theorem ex_decG {c : Ctx} {tab : Tab} (hok : okTab tab = true) {M : Nat} (hshp : ∀ m, m < M → shp tab (3 + m) = (36, exRow m)) {w : World} : ∀ (m : Nat), m ≤ M → ∀ (cs : List Value), RowK ((exRow m).map (cden c tab)) w cs → ∃ t : Ex, (t.s.size ≤ 16 ∧ shE m t.ps) ∧ exP (PDr c w) (m + 1) w t cs
  | 0, _, cs, h => by
    obtain ⟨_, _, rfl, ⟨k, rfl⟩, _, _, rfl, ⟨n, rfl⟩, _, _, rfl, ⟨s, rfl, hs⟩, _, _, rfl, hv, rfl⟩ := h
    have hv : _ = Value.slice Option.none 0 0 := hv
    subst hv
    exact ⟨.nd k n s [], ⟨hs, rfl⟩, Option.none, 0, rfl, RdL.nil _, fun h => by simp [Ex.ps] at h, by show s.size ≤ _; omega⟩
  | m + 1, hm, cs, h => by
    obtain ⟨_, _, rfl, ⟨k, rfl⟩, _, _, rfl, ⟨n, rfl⟩, _, _, rfl, ⟨s, rfl, hs⟩, _, v, rfl, hv, rfl⟩ := h
    have hsh := hshp m (by omega)
    have hv2 : cden c tab (.sl (3 + m) 0 2) w _ := hv
    obtain ⟨l, A, q, rfl, _, h1, h2, h3, _⟩ := sl_rd (R := exP (PDr c w) (m + 1)) (P := fun t => t.s.size ≤ 16 ∧ shE m t.ps) hok (by rw [hsh]; exact ex_decG hok hshp m (by omega)) (by decide) hv2
    have hb := sl_blk hv2
    rw [hsh] at h3
    exact ⟨.nd k n s l, ⟨hs, h1, h2⟩, A, q, rfl, h3, fun _ a ha => hb a ha, by show s.size ≤ _; omega⟩
theorem il_decE {c : Ctx} {tab : Tab} {w : World} {lo hi : Int} (cs : List Value) (h : RowK ([CK.int .i64 lo hi].map (cden c tab)) w cs) : ∃ a : Int, (lo ≤ a ∧ a ≤ hi) ∧ Flat ilEnc w a cs := by
  obtain ⟨_, _, rfl, ⟨n, rfl, h0, h1⟩, rfl⟩ := h
  exact ⟨n, ⟨h0, h1⟩, rfl⟩
theorem fd_dec {c : Ctx} {tab : Tab} {w : World} (cs : List Value) (h : RowK ([CK.str 16, ckI, ckI].map (cden c tab)) w cs) : ∃ f : Fd, f.1.size ≤ 16 ∧ Flat fdEnc w f cs := by
  obtain ⟨_, _, rfl, ⟨s, rfl, hs⟩, _, _, rfl, ⟨k, rfl, _⟩, _, _, rfl, ⟨n, rfl, _⟩, rfl⟩ := h
  exact ⟨(s, k, n), hs, rfl⟩
theorem fds_of {c : Ctx} {tab : Tab} {w : World} {v : Value} {i lo hi : Nat} (ht : okTab tab = true) (hs : shp tab i = (89, [.str 16, ckI, ckI])) (hh : hi ≤ 9223372036854775807) (h : cden c tab (.sl i lo hi) w v) : ∃ (l : FdL) (A : Option Addr) (q : Nat), v = .slice A l.length q ∧ l.length ≤ q ∧ fdR w A l ∧ WfFd l := by
  obtain ⟨l, A, q, rfl, _, _, h2, h3, h4, _⟩ := sl_rd (R := Flat fdEnc) (P := fun f : Fd => f.1.size ≤ 16) ht (by rw [hs]; exact fd_dec) hh h
  rw [hs] at h3
  exact ⟨l, A, q, rfl, h4, h3, fun f hf => by have := h2 f hf; omega⟩
theorem th_dec {c : Ctx} {tab : Tab} {w : World} (ht : okTab tab = true) (h2 : shp tab 2 = (3, [ckI])) (h10 : shp tab 10 = (89, [.str 16, ckI, ckI])) (cs : List Value) (h : RowK ([CK.sl 2 0 8, .sl 10 0 8].map (cden c tab)) w cs) : ∃ t : Th, WfFd t.fs ∧ ThR w t cs := by
  obtain ⟨_, _, rfl, h4, _, _, rfl, h5, rfl⟩ := h
  obtain ⟨gs, A, q, rfl, _, _, _, g3, _⟩ := sl_rd (R := Flat ilEnc) (P := fun a => i64lo ≤ a ∧ a ≤ i64hi) ht (by rw [h2]; exact il_decE) (by decide) h4
  obtain ⟨fs, B, q', rfl, _, f3, f4⟩ := fds_of ht h10 (by decide) h5
  rw [h2] at g3
  exact ⟨⟨gs, fs⟩, f4, A, q, B, q', rfl, g3, f3⟩
theorem ths_of {c : Ctx} {tab : Tab} {w : World} {v : Value} {lo hi : Nat} (ht : okTab tab = true) (h2 : shp tab 2 = (3, [ckI])) (h10 : shp tab 10 = (89, [.str 16, ckI, ckI])) (h11 : shp tab 11 = (65, [.sl 2 0 8, .sl 10 0 8])) (hh : hi ≤ 9223372036854775807) (h : cden c tab (.sl 11 lo hi) w v) : ∃ (W : WL) (A : Option Addr) (q : Nat), v = .slice A W.length q ∧ wlR w A W ∧ WfW W := by
  obtain ⟨l, A, q, rfl, _, _, g2, g3, g4, _⟩ := sl_rd (R := ThR) (P := fun t : Th => WfFd t.fs) ht (by rw [h11]; exact th_dec ht h2 h10) hh h
  rw [h11] at g3
  exact ⟨l, A, q, rfl, g3, fun k hk => by rw [thAt_eq hk]; exact g2 _ (List.getElem_mem hk)⟩
theorem th_ok : okTab thTab = true := by kernel_rfl
theorem rq_ok2 : okTab rqTab = true := by kernel_rfl
end Go.Proofs.YtodjokdaofefdaaGreat
/- Schemas and policies: what is drawn, by kinds. -/
namespace Go.Proofs.YtodjokdaofefdaaGreat
set_option linter.unusedSimpArgs false
set_option linter.unusedVariables false
open Go.RowKit

/-- Expressions, with narrow numbers ahead of all others. -/
def peTab : Tab := [
  (3, [ckI]),
  (36, [.intx .i64, .intx .i64, .str 16, .sl 8 0 2]),
  (36, [.intx .i64, .intx .i64, .str 16, .sl 7 0 2]),
  (36, [.intx .i64, .intx .i64, .str 16, .sl 6 0 2]),
  (36, [.intx .i64, .intx .i64, .str 16, .sl 5 0 2]),
  (36, [.intx .i64, .intx .i64, .str 16, .sl 4 0 2]),
  (36, [.intx .i64, .intx .i64, .str 16, .sl 3 0 2]),
  (36, [.intx .i64, .intx .i64, .str 16, .nil]),
  (9, [.str 16]),
  (3, [.int .i64 0 4]),
  (3, [.int .i64 0 2])]
theorem pe_good {J lim : Nat} {cons : List Con} (hc : ∀ e ∈ cons, ConOk Tryz.prog peTab e) : Good (dConf Tryz.prog peTab [] J lim cons) := good_of (by kernel_rfl) (by kernel_rfl) hc
theorem pe_nc : noCode peTab = true := by kernel_rfl
theorem peName_con : ConOk Tryz.prog peTab exNameCon := con_ofB (T := dConf Tryz.prog peTab [] 0 10 []) (rk := .ck (.str 16)) (fu := 20) (keep := List.range 200) (pe_good cons_nil) Tryz.func60 (by kernel_rfl) (by kernel_rfl) (by kernel_rfl)
theorem pth0_con : ConOk Tryz.prog peTab (thC 0 100) := conP_of (T := dConf Tryz.prog peTab [] 0 100 []) (fu := 20) (keep := List.range 200) (pe_good cons_nil) Tryz.func52 (by kernel_rfl) (by kernel_rfl) pe_nc (by kernel_rfl)
theorem peC1_ok : ∀ e ∈ exC1, ConOk Tryz.prog peTab e := cons_cons peName_con (cons_cons pth0_con cons_nil)
theorem pnu0_con : ConOk Tryz.prog peTab (nuC 0 100) := conP_of (T := dConf Tryz.prog peTab [] 0 100 exC1) (fu := 20) (keep := List.range 200) (pe_good peC1_ok) Tryz.func51 (by kernel_rfl) (by kernel_rfl) pe_nc (by kernel_rfl)
theorem ptr0_con : ConOk Tryz.prog peTab (trC 0 0 100) := conP_of (T := dConf Tryz.prog peTab [] 0 100 exC1) (fu := 20) (keep := List.range 200) (pe_good peC1_ok) Tryz.func50 (by kernel_rfl) (by kernel_rfl) pe_nc (by kernel_rfl)
theorem pth1_con : ConOk Tryz.prog peTab (thC 1 2000) := conP_of (T := dConf Tryz.prog peTab [] 0 2000 exC1) (fu := 20) (keep := List.range 200) (pe_good peC1_ok) Tryz.func52 (by kernel_rfl) (by kernel_rfl) pe_nc (by kernel_rfl)
theorem pnu1_con : ConOk Tryz.prog peTab (nuC 1 2000) := conP_of (T := dConf Tryz.prog peTab [] 0 2000 exC1) (fu := 20) (keep := List.range 200) (pe_good peC1_ok) Tryz.func51 (by kernel_rfl) (by kernel_rfl) pe_nc (by kernel_rfl)
theorem peC2_ok : ∀ e ∈ exC2, ConOk Tryz.prog peTab e := cons_cons pnu0_con (cons_cons ptr0_con peC1_ok)
theorem ptr1_con : ConOk Tryz.prog peTab (trC 1 2 1000) := conP_of (T := dConf Tryz.prog peTab [] 0 1000 exC2) (fu := 20) (keep := List.range 200) (pe_good peC2_ok) Tryz.func50 (by kernel_rfl) (by kernel_rfl) pe_nc (by kernel_rfl)
theorem peC3_ok : ∀ e ∈ exC3, ConOk Tryz.prog peTab e := cons_app peC2_ok (cons_cons pth1_con (cons_cons pnu1_con (cons_cons ptr1_con cons_nil)))
theorem pth2_con : ConOk Tryz.prog peTab (thC 2 40000) := conP_of (T := dConf Tryz.prog peTab [] 0 40000 exC3) (fu := 20) (keep := List.range 200) (pe_good peC3_ok) Tryz.func52 (by kernel_rfl) (by kernel_rfl) pe_nc (by kernel_rfl)
theorem pnu2_con : ConOk Tryz.prog peTab (nuC 2 40000) := conP_of (T := dConf Tryz.prog peTab [] 0 40000 exC3) (fu := 20) (keep := List.range 200) (pe_good peC3_ok) Tryz.func51 (by kernel_rfl) (by kernel_rfl) pe_nc (by kernel_rfl)
theorem ptr2_con : ConOk Tryz.prog peTab (trC 2 3 20000) := conP_of (T := dConf Tryz.prog peTab [] 0 20000 exC3) (fu := 20) (keep := List.range 200) (pe_good peC3_ok) Tryz.func50 (by kernel_rfl) (by kernel_rfl) pe_nc (by kernel_rfl)
theorem peC4_ok : ∀ e ∈ exC4, ConOk Tryz.prog peTab e := cons_app peC3_ok (cons_cons pth2_con (cons_cons pnu2_con (cons_cons ptr2_con cons_nil)))
theorem ptr3_con : ConOk Tryz.prog peTab (trC 3 4 200000) := conP_of (T := dConf Tryz.prog peTab [] 0 200000 exC4) (fu := 20) (keep := List.range 200) (pe_good peC4_ok) Tryz.func50 (by kernel_rfl) (by kernel_rfl) pe_nc (by kernel_rfl)
theorem peC5_ok : ∀ e ∈ exC5, ConOk Tryz.prog peTab e := cons_app peC4_ok (cons_cons ptr3_con cons_nil)
theorem pexpr_con : ConOk Tryz.prog peTab exprC := conP_of (T := dConf Tryz.prog peTab [] 0 1000000 exC5) (fu := 20) (keep := List.range 200) (pe_good peC5_ok) Tryz.func26 (by kernel_rfl) (by kernel_rfl) pe_nc (by kernel_rfl)
end Go.Proofs.YtodjokdaofefdaaGreat
/- Schemas and policies: what is drawn, by kinds; guards of what is drawn. -/
namespace Go.Proofs.YtodjokdaofefdaaGreat
set_option linter.unusedSimpArgs false
set_option linter.unusedVariables false
open Go.RowKit

theorem exY_denG {c : Ctx} {tab : Tab} (hok : okTab tab = true) {M : Nat} (hshp : ∀ m, m < M → shp tab (3 + m) = (36, exRow m)) {w : World} {P : Nat → Prop} (hP : ∀ k, P k → c.B ≤ k ∧ k ≠ c.br) : ∀ (m : Nat), m ≤ M → ∀ {d : Nat} {v : Value} {l : ExL}, exY P d w v l → shE m l → cden c tab (exPart m) w v
  | 0, _, 0, v, l, h, _ => h.2
  | 0, _, d + 1, v, l, h, hs => h.1 hs
  | m + 1, _, 0, v, l, h, _ => by
    show cden c tab (.sl (3 + m) 0 2) w v
    rw [h.2]
    exact ⟨SlK.nil, _, _, _, rfl, Nat.zero_le _⟩
  | m + 1, hm, d + 1, v, l, h, hs => by
    show cden c tab (.sl (3 + m) 0 2) w v
    rcases Nat.eq_zero_or_pos l.length with h0 | h0
    · rw [h.1 (List.eq_nil_of_length_eq_zero h0)]
      exact ⟨SlK.nil, _, _, _, rfl, Nat.zero_le _⟩
    · obtain ⟨g, q, cs, rfl, hq, hPg, hg, hsz, hc⟩ := h.2 h0
      have hsh := hshp m (by omega)
      have htd := (tab_den (c := c) hok (3 + m)).1
      rw [hsh] at htd
      refine ⟨.inr ⟨g, 0, l.length, q, by simp, hs.1, hq.1, hq.2, ?_⟩, _, _, _, rfl, Nat.zero_le _⟩
      rw [htd]
      refine ⟨(hP g hPg).1, (hP g hPg).2, cs, hg, by simpa using hsz, fun q' f k u hq' hk hu => ?_⟩
      have hq2 : q' < l.length := by omega
      obtain ⟨v', h1, h2, h3⟩ := hc q' hq2
      have hmem : exAt l q' ∈ l := by rw [exAt_eq hq2]; exact List.getElem_mem _
      have hp := hs.2 _ hmem
      have hu2 : cs[q' * 4 + f]? = some u := by simpa using hu
      match f, hk with
      | 0, hk => cases hk; have := h1 0 _ rfl; rw [hu2] at this; cases this; exact ⟨_, rfl⟩
      | 1, hk => cases hk; have := h1 1 _ rfl; rw [hu2] at this; cases this; exact ⟨_, rfl⟩
      | 2, hk => cases hk; have := h1 2 _ rfl; rw [hu2] at this; cases this; exact ⟨_, rfl, hp.1⟩
      | 3, hk =>
        cases hk
        have := h1 3 _ rfl
        rw [hu2] at this
        cases this
        exact exY_denG hok hshp hP m (by omega) h3 hp.2
      | n + 4, hk => simp at hk
/-- Guards of an expression at most six deep: at most six deep. -/
def guC6 : Con := ⟨15, [.ag (exRow 6)], .tup [.agg (exRow 6), .c (.bool Option.none)], 0⟩
theorem pe_ok : okTab peTab = true := by kernel_rfl
theorem shp_pe : ∀ m, m < 7 → shp peTab (3 + m) = (36, exRow m)
  | 0, _ => rfl
  | 1, _ => rfl
  | 2, _ => rfl
  | 3, _ => rfl
  | 4, _ => rfl
  | 5, _ => rfl
  | 6, _ => rfl
  | n + 7, h => by omega
theorem gu6_con : ConOk Tryz.prog peTab guC6 := by
  refine ⟨entersF Tryz.func15 (by kernel_rfl) rfl, ?_⟩
  rintro c w N args hB hcb hR hN hA
  match args, hA with
  | [v], ⟨⟨cs, e, hrow⟩, _⟩ =>
    subst e
    obtain ⟨t, ⟨hs, hsh⟩, A, q, rfl, h1, h2, h3⟩ := ex_decG (M := 7) pe_ok shp_pe 6 (by decide) cs hrow
    have hW : exW 6 w A t.ps := exQ.s (P := PDr c w) ⟨h1, h2⟩ (fun k hk => ⟨Nat.zero_le _, hk.2.2⟩)
    have hc := shE_cnt 6 6 _ hsh
    have hbr := hR.lt
    refine (specGuardedByY (c := q) hW h3 (by omega)).mono ?_
    rintro e w' ⟨A', c', rfl, hY, hb⟩
    obtain ⟨A2, c2, e2, hq⟩ := exY.q hY
    cases e2
    have hW' : exW _ w' A' (gbE 6 t).ps := hq.s (fun k hk => ⟨Nat.zero_le _, hk.2⟩)
    have hsh' := gb_sh hW'
    refine ⟨_, rfl, ⟨_, rfl, _, _, rfl, ⟨_, rfl, _, _, rfl, ⟨_, rfl⟩, _, _, rfl, ⟨_, rfl⟩, _, _, rfl, ⟨_, rfl, hsh'.1⟩, _, _, rfl, exY_denG (M := 7) pe_ok shp_pe (fun k hk => ⟨Nat.le_trans hB hk.1, by omega⟩) 6 (by decide) hY hsh'.2, rfl⟩, _, _, rfl, ⟨_, rfl, fun y hy => by cases hy⟩, rfl⟩, (hR.below hb).mono (Nat.le_refl _), grown_of_below hb _⟩
/-! ### Schemas -/
def scTab : Tab := (25, [.sl 11 0 8, .sl 11 0 8]) :: (73, [.str 16, ckI]) :: peTab
def scSto : Sto := [(25, 12), (73, 11)]
theorem sc_good {J lim : Nat} {cons : List Con} (hc : ∀ e ∈ cons, ConOk Tryz.prog scTab e) : Good (dConf Tryz.prog scTab scSto J lim cons) := good_of (by kernel_rfl) (by kernel_rfl) hc
theorem sc_nc : noCode scTab = true := by kernel_rfl
def scC : Con := ⟨13, [.ck .rdr, .ck (.int .i64 0 100)], .ag [.sl 11 0 8, .sl 11 0 8], 100⟩
theorem sc_con : ConOk Tryz.prog scTab scC := conP_of (T := dConf Tryz.prog scTab scSto 0 100 []) (fu := 20) (keep := List.range 200) (sc_good cons_nil) Tryz.func13 (by kernel_rfl) (by kernel_rfl) sc_nc (by kernel_rfl)
/-! ### Policies -/
abbrev poRow : List CK := [.str 16, .bool Option.none, ckI, ckI, ckI, .intx .i64, .intx .i64, .str 16, .sl 8 0 2]
def poTab : Tab := (54, poRow) :: scTab
def poSto : Sto := (54, 13) :: scSto
theorem po_good {J lim : Nat} {cons : List Con} (hc : ∀ e ∈ cons, ConOk Tryz.prog poTab e) : Good (dConf Tryz.prog poTab poSto J lim cons) := good_of (by kernel_rfl) (by kernel_rfl) hc
theorem po_nc : noCode poTab = true := by kernel_rfl
theorem up3 {e : Con} (h : ConOk Tryz.prog peTab e) (h1 : e.lowT peTab.length = true) (h2 : e.lowT (peTab.length + 1) = true) (h3 : e.lowT scTab.length = true) : ConOk Tryz.prog poTab e := con_up h3 (con_up h2 (con_up h1 h))
abbrev poCs : List Con := [exNameCon, exprC]
theorem poCs_ok : ∀ e ∈ poCs, ConOk Tryz.prog poTab e := cons_cons (up3 peName_con (by kernel_rfl) (by kernel_rfl) (by kernel_rfl)) (cons_cons (up3 pexpr_con (by kernel_rfl) (by kernel_rfl) (by kernel_rfl)) cons_nil)
def poC1 : Con := ⟨33, [.ck .rdr, .ck (.int .i64 0 100)], .ag poRow, 40000000⟩
theorem po_con : ConOk Tryz.prog poTab poC1 := conP_of (T := dConf Tryz.prog poTab poSto 0 40000000 poCs) (fu := 20) (keep := List.range 200) (po_good poCs_ok) Tryz.func33 (by kernel_rfl) (by kernel_rfl) po_nc (by kernel_rfl)
abbrev posCs : List Con := poC1 :: poCs
theorem posCs_ok : ∀ e ∈ posCs, ConOk Tryz.prog poTab e := cons_cons po_con poCs_ok
def posC : Con := ⟨14, [.ck .rdr, .ck (.int .i64 0 100)], .ck (.sl 13 0 8), 400000000⟩
theorem pos_con : ConOk Tryz.prog poTab posC := con_ofB (T := dConf Tryz.prog poTab poSto 0 400000000 posCs) (fu := 20) (keep := List.range 200) (po_good posCs_ok) Tryz.func14 (by kernel_rfl) (by kernel_rfl) (by kernel_rfl)
theorem scPo_con : ConOk Tryz.prog poTab scC := con_up (by kernel_rfl) sc_con
theorem guPo_con : ConOk Tryz.prog poTab guC6 := up3 gu6_con (by kernel_rfl) (by kernel_rfl) (by kernel_rfl)
end Go.Proofs.YtodjokdaofefdaaGreat
/- Schemas and policies: what is drawn, as they read. -/
namespace Go.Proofs.YtodjokdaofefdaaGreat
set_option linter.unusedSimpArgs false
set_option linter.unusedVariables false
open Go.RowKit

theorem kd_dec {c : Ctx} {tab : Tab} {w : World} (cs : List Value) (h : RowK ([CK.str 16, ckI].map (cden c tab)) w cs) : ∃ a : Kd2, a.1.size ≤ 16 ∧ Flat kdEnc w a cs := by
  obtain ⟨_, _, rfl, ⟨s, rfl, hs⟩, _, _, rfl, ⟨k, rfl, _⟩, rfl⟩ := h
  exact ⟨(s, k), hs, rfl⟩
theorem kds_of {c : Ctx} {tab : Tab} {w : World} {v : Value} {i lo hi : Nat} (ht : okTab tab = true) (hs : shp tab i = (73, [.str 16, ckI])) (hh : hi ≤ 9223372036854775807) (h : cden c tab (.sl i lo hi) w v) : ∃ (l : KdL) (A : Option Addr) (q : Nat), v = .slice A l.length q ∧ l.length ≤ q ∧ kdR w A l ∧ WfKd l := by
  obtain ⟨l, A, q, rfl, _, _, h2, h3, h4, _⟩ := sl_rd (R := Flat kdEnc) (P := fun f : Kd2 => f.1.size ≤ 16) ht (by rw [hs]; exact kd_dec) hh h
  rw [hs] at h3
  exact ⟨l, A, q, rfl, h4, h3, fun f hf => by have := h2 f hf; omega⟩
theorem po_ok2 : okTab poTab = true := by kernel_rfl
theorem shp_po : ∀ m, m < 7 → shp poTab (3 + m) = (36, exRow m)
  | 0, _ => rfl
  | 1, _ => rfl
  | 2, _ => rfl
  | 3, _ => rfl
  | 4, _ => rfl
  | 5, _ => rfl
  | 6, _ => rfl
  | n + 7, h => by omega
/-- A drawn policy's expression. -/
def PoF (p : Po) : Prop := shE 6 p.wh.ps
theorem PoF.cnt {p : Po} (h : PoF p) : cntS 6 p.wh.ps ≤ 2097152 := by have := shE_cnt 6 6 _ h; omega
theorem po_dec {c : Ctx} {w : World} (cs : List Value) (h : RowK (poRow.map (cden c poTab)) w cs) : ∃ p : Po, PoF p ∧ PoR 6 0 w.heap.size w p cs := by
  obtain ⟨_, _, rfl, ⟨nm, rfl, hn⟩, _, _, rfl, ⟨al, rfl, _⟩, _, _, rfl, ⟨who, rfl, _⟩, _, _, rfl, ⟨what, rfl, _⟩, _, _, rfl, ⟨acts, rfl, _⟩, h⟩ := h
  obtain ⟨t, ⟨hs, hsh⟩, A, q, rfl, h1, h2, h3⟩ := ex_decG (M := 7) po_ok2 shp_po 6 (by decide) _ h
  exact ⟨⟨nm, al, who, what, acts, t⟩, hsh, A, q, rfl, exQ.s (P := PDr c w) ⟨h1, h2⟩ (fun k hk => ⟨Nat.zero_le _, hk.2.2⟩), by show t.s.size ≤ _; omega, by show nm.size ≤ _; omega⟩
end Go.Proofs.YtodjokdaofefdaaGreat
/- What SafePolicies draws: a schema, a number of things, policies. -/
namespace Go.Proofs.YtodjokdaofefdaaGreat
set_option linter.unusedSimpArgs false
set_option linter.unusedVariables false
open Go.RowKit

abbrev spCs : List Con := [scC, posC, guC6]
theorem spCs_ok : ∀ e ∈ spCs, ConOk Tryz.prog poTab e := cons_cons scPo_con (cons_cons pos_con (cons_cons guPo_con cons_nil))
theorem drawSafePolicies_fn : absFnB (dConf Tryz.prog poTab poSto 1 900000000 spCs) Tryz.f4 20 (List.range 200) [.ck .code] (.pre 0) (.tup [.agg [.sl 11 0 8, .sl 11 0 8], .c ckI, .c (.sl 13 0 8)]) = true := by kernel_rfl
theorem drawSafePolicies_d {A : Option Addr} {l : List Int} {q : Nat} {w : World} (hC : CodeR w w.heap.size A l) (hq : l.length ≤ q) :
    Calls Tryz.prog 4 #[.slice A l.length q] w fun e w' => ∃ (s : Sc) (many : Int) (ps : PoL) (A0 A1 C : Option Addr) (c0 c1 ct : Nat), e = .returned (.tuple #[scV s A0 c0 A1 c1, .int .i64 many, .slice C ps.length ct]) ∧ scR w' A0 A1 s ∧ (WfKd s.1 ∧ WfKd s.2) ∧ s.1.length ≤ c0 ∧ s.2.length ≤ c1 ∧ poW 6 w' C ps ∧ cntP 6 ps ∧ ps.length ≤ 8 ∧ ps.length ≤ ct ∧ ct ≤ 9223372036854775807 ∧ ((ps = [] ∧ C = Option.none ∧ ct = 0) ∨ ∃ b off, C = some ⟨b, off, Option.none⟩) ∧ Below w.heap.size w w' := by
  refine (draw_ofB (po_good spCs_ok) Tryz.func4 (by decide) drawSafePolicies_fn hC hq).mono ?_
  rintro e w' ⟨v, c, rfl, _, ⟨_, rfl, _, _, rfl, ⟨cs, rfl, _, _, rfl, g0, _, _, rfl, g1, rfl⟩, _, _, rfl, ⟨many, rfl, _⟩, _, _, rfl, g2, rfl⟩, hb⟩
  obtain ⟨l0, A0, c0, rfl, e0, r0, z0⟩ := kds_of po_ok2 rfl (by decide) g0
  obtain ⟨l1, A1, c1, rfl, e1, r1, z1⟩ := kds_of po_ok2 rfl (by decide) g1
  obtain ⟨ps, C, ct, rfl, _, k1, k2, k3, k4, k5, k6, k7⟩ := sl_rd (R := PoR 6 0 w'.heap.size) (P := PoF) po_ok2 (fun cs h => po_dec cs h) (by decide) g2
  exact ⟨(l0, l1), many, ps, A0, A1, C, c0, c1, ct, rfl, ⟨r0, r1⟩, ⟨z0, z1⟩, e0, e1, ⟨k3, fun hn a ha => ⟨Nat.zero_le _, (k6 a ha).1⟩⟩, fun k hk => by rw [poAt_eq hk]; exact (k2 _ (List.getElem_mem hk)).cnt, k1, k4, k5, (by
    cases C with
    | none => have := k7 rfl; exact .inl ⟨List.eq_nil_of_length_eq_zero (by omega), rfl, this⟩
    | some a => obtain ⟨b, off, sp⟩ := a; obtain rfl : sp = Option.none := (k6 _ rfl).2; exact .inr ⟨b, off, rfl⟩), hb⟩
end Go.Proofs.YtodjokdaofefdaaGreat
/- Guards: what is drawn. -/
namespace Go.Proofs.YtodjokdaofefdaaGreat
set_option linter.unusedSimpArgs false
set_option linter.unusedVariables false
open Go.RowKit

/-- A drawn expression at hand. -/
def DrV (m : Nat) (c : Ctx) (t : Ex) (w : World) (A : Option Addr) : Prop := exQ (PDr c w) m w A t.ps
theorem DrV.grown {m : Nat} {c : Ctx} {t : Ex} {w w' : World} {A : Option Addr} {row : Option Nat} (h : DrV m c t w A) (hg : w.grownBy w' row) (hr : ∀ k, row = some k → k = c.br ∨ k < c.B) : DrV m c t w' A :=
  exQ.keep h (Nat.le_refl _) (fun k hk => ⟨⟨hk.1, hk.2.1, Nat.lt_of_lt_of_le hk.2.2 hg.size⟩, hg.block k hk.2.2 (fun e => by rcases hr k e.symm with h | h; exact hk.2.1 h; have := hk.1; omega)⟩)
theorem DrV.w {m : Nat} {c : Ctx} {t : Ex} {w : World} {A : Option Addr} (h : DrV m c t w A) : exW m w A t.ps := h.s (fun k hk => ⟨Nat.zero_le _, hk.2.2⟩)
theorem DrV.up {m : Nat} {c c' : Ctx} {t : Ex} {w : World} {A : Option Addr} (h : DrV m c t w A) (hB : c'.B ≤ c.B) (hbr : c'.br = c.br) : DrV m c' t w A := exQ.keep h (Nat.le_refl _) (fun k hk => ⟨⟨Nat.le_trans hB hk.1, by rw [hbr]; exact hk.2.1, hk.2.2⟩, rfl⟩)
/-- The draw of an expression, at a reader. -/
theorem l20Expr_d {c : Ctx} {w : World} {N : Nat} {n : Int} (hB : c.B ≤ w.heap.size) (hcb : c.cb ≤ c.B) (hR : RdrT w c.br c.cb N) (hN : N + 1000000 ≤ 1000000000) (h0 : 0 ≤ n) (h1 : n ≤ 100) :
    Calls Tryz.prog 26 #[.pointer (some ⟨c.br, 0, Option.none⟩), .int .i64 n] w fun e w' => ∃ (t : Ex) (A : Option Addr) (q : Nat), e = .returned (.agg #[.int .i64 t.k, .int .i64 t.n, .string t.s, .slice A t.ps.length q]) ∧ shE 5 t.ps ∧ t.s.size ≤ 16 ∧ DrV 5 c t w' A ∧ RdrT w' c.br c.cb (N + 1000000) ∧ w.grownBy w' (some c.br) := by
  refine (expr_con.2 c w N [.pointer (some ⟨c.br, 0, Option.none⟩), .int .i64 n] hB hcb hR hN ⟨rfl, ⟨n, rfl, h0, h1⟩, trivial⟩).mono ?_
  rintro e w' ⟨v, rfl, ⟨cs, rfl, hrow⟩, hR', hg⟩
  obtain ⟨t, ⟨hs, hsh⟩, A, q, rfl, h1, h2, h3⟩ := ex_dec 5 (by decide) cs hrow
  exact ⟨t, A, q, rfl, hsh, hs, ⟨h1, h2⟩, hR', hg⟩
end Go.Proofs.YtodjokdaofefdaaGreat
/- What Evaluate draws: a world, a request, an expression. -/
namespace Go.Proofs.YtodjokdaofefdaaGreat
set_option linter.unusedSimpArgs false
set_option linter.unusedVariables false
open Go.RowKit

theorem l20Things_d {c : Ctx} {w : World} {N : Nat} {n : Int} (hB : c.B ≤ w.heap.size) (hcb : c.cb ≤ c.B) (hR : RdrT w c.br c.cb N) (hN : N + 40000 ≤ 1000000000) (h0 : 0 ≤ n) (h1 : n ≤ 100) :
    Calls Tryz.prog 24 #[.pointer (some ⟨c.br, 0, Option.none⟩), .int .i64 n] w fun e w' => ∃ (A : Option Addr) (m q : Nat), e = .returned (.slice A m q) ∧ m ≤ 8 ∧ cden c thTab (.sl 11 0 8) w' (.slice A m q) ∧ RdrT w' c.br c.cb (N + 40000) ∧ w.grownBy w' (some c.br) := by
  refine (thThs_con.2 c w N [.pointer (some ⟨c.br, 0, Option.none⟩), .int .i64 n] hB hcb hR hN ⟨rfl, ⟨n, rfl, h0, h1⟩, trivial⟩).mono ?_
  rintro e w' ⟨v, rfl, hv, hR', hg⟩
  have hv2 : cden c thTab (.sl 11 0 8) w' v := hv
  obtain ⟨l, A, q, rfl, h2, _, _⟩ := sl_rd (R := fun _ (_ : Unit) _ => True) (P := fun _ => True) th_ok (fun cs _ => ⟨(), trivial, trivial⟩) (by decide) hv2
  obtain ⟨hs, _⟩ := hv2
  exact ⟨A, l.length, q, rfl, by rcases hs.shape with ⟨A', n', q', e, h3, _⟩; cases e; exact h3, hv, hR', hg⟩
theorem l20Request_d {c : Ctx} {w : World} {N m q : Nat} {n : Int} {A : Option Addr} (hB : c.B ≤ w.heap.size) (hcb : c.cb ≤ c.B) (hR : RdrT w c.br c.cb N) (hN : N + 10000 ≤ 1000000000) (hm : m ≤ 8) (h0 : 0 ≤ n) (h1 : n ≤ 100) :
    Calls Tryz.prog 25 #[.pointer (some ⟨c.br, 0, Option.none⟩), .slice A m q, .int .i64 n] w fun e w' => ∃ (who act what : Int) (Af : Option Addr) (mf qf : Nat), e = .returned (.agg #[.int .i64 who, .int .i64 act, .int .i64 what, .slice Af mf qf]) ∧ cden c rqTab (.sl 10 0 8) w' (.slice Af mf qf) ∧ RdrT w' c.br c.cb (N + 10000) ∧ w.grownBy w' (some c.br) := by
  refine (rq_con.2 c w N [.pointer (some ⟨c.br, 0, Option.none⟩), .slice A m q, .int .i64 n] hB hcb hR hN ⟨rfl, ⟨A, m, q, rfl, Nat.zero_le _, hm⟩, ⟨n, rfl, h0, h1⟩, trivial⟩).mono ?_
  rintro e w' ⟨v, rfl, ⟨cs, rfl, _, _, rfl, ⟨who, rfl, _⟩, _, _, rfl, ⟨act, rfl, _⟩, _, _, rfl, ⟨what, rfl, _⟩, _, vf, rfl, h4, rfl⟩, hR', hg⟩
  obtain ⟨_, Af, mf, qf, rfl, _⟩ := (show cden c rqTab (.sl 10 0 8) w' _ from h4)
  exact ⟨who, act, what, Af, mf, qf, rfl, h4, hR', hg⟩
/-- Where all lies. -/
structure EvG (c : Ctx) (w0 : World) (g3 g4 g7 : Nat) : Prop where
  h3 : g3 < c.B
  h4 : g4 < c.B
  n3 : w0.heap.size ≤ g3
  n4 : w0.heap.size ≤ g4
  e34 : g3 ≠ g4
  e3 : g3 ≠ c.br
  e4 : g4 ≠ c.br
  h7 : c.B ≤ g7
  e7 : g7 ≠ c.br
  n0 : w0.heap.size ≤ c.br
  cb : c.cb ≤ w0.heap.size
/-- What stands. -/
structure EvI (c : Ctx) (w0 : World) (g3 g4 g7 : Nat) (who act what : Int) (vf v6 : Value) (N : Nat) (wz : World) : Prop where
  hb : Below w0.heap.size w0 wz
  d6 : cden c thTab (.sl 11 0 8) wz v6
  df : cden c rqTab (.sl 10 0 8) wz vf
  b7 : wz.heap[g7]? = some (.cells #[.int .i64 who, .int .i64 act, .int .i64 what, vf] 33 (0, 0))
  rd : RdrT wz c.br c.cb N
  sz : c.B ≤ wz.heap.size
  b3 : ∃ y0 y1 y2 y3, wz.heap[g3]? = some (.cells #[y0, y1, y2, y3] 33 (0, 0))
  b4 : ∃ y0 y1 y2 y3, wz.heap[g4]? = some (.cells #[y0, y1, y2, y3] 36 (0, 0))
section
variable {c : Ctx} {w0 : World} {g3 g4 g7 : Nat} {who act what : Int} {vf v6 : Value} {N N' : Nat} {wa wb : World}
theorem EvI.mono (h : EvI c w0 g3 g4 g7 who act what vf v6 N wa) (hN : N ≤ N') : EvI c w0 g3 g4 g7 who act what vf v6 N' wa := { h with rd := h.rd.mono hN }
theorem block_other {g : Nat} {o : Obj} {row : Option Nat} (h : wa.heap[g]? = some o) (hg : wa.grownBy wb row) (hr : row ≠ some g) : wb.heap[g]? = some o := (hg.block g (Array.getElem?_eq_some_iff.1 h).1 (fun e => hr e.symm)).trans h
theorem EvI.br (hG : EvG c w0 g3 g4 g7) (h : EvI c w0 g3 g4 g7 who act what vf v6 N wa) (hg : wa.grownBy wb (some c.br)) (hR : RdrT wb c.br c.cb N') : EvI c w0 g3 g4 g7 who act what vf v6 N' wb :=
  { hb := h.hb.grown hg h.hb.size (fun k e => by cases e; exact hG.n0), d6 := cden_stay th_ok h.d6 hg (fun j e => by cases e; exact .inl rfl), df := cden_stay rq_ok2 h.df hg (fun j e => by cases e; exact .inl rfl), b7 := block_other h.b7 hg (fun e => hG.e7 (Option.some.inj e).symm), rd := hR, sz := Nat.le_trans h.sz hg.size,
    b3 := let ⟨a, b, d, f, e⟩ := h.b3; ⟨a, b, d, f, block_other e hg (fun e => hG.e3 (Option.some.inj e).symm)⟩, b4 := let ⟨a, b, d, f, e⟩ := h.b4; ⟨a, b, d, f, block_other e hg (fun e => hG.e4 (Option.some.inj e).symm)⟩ }
theorem EvI.s3 (hG : EvG c w0 g3 g4 g7) (h : EvI c w0 g3 g4 g7 who act what vf v6 N wa) (z0 z1 z2 z3 : Value) : EvI c w0 g3 g4 g7 who act what vf v6 N (setCells wa g3 0 [z0, z1, z2, z3]) ∧ (setCells wa g3 0 [z0, z1, z2, z3]).heap[g3]? = some (.cells #[z0, z1, z2, z3] 33 (0, 0)) := by
  have hg := setCells_grown g3 [z0, z1, z2, z3] wa 0
  have hne : some g3 ≠ some g7 := fun e => by
    cases e
    have := hG.h3
    have := hG.h7
    omega
  obtain ⟨a, b, d, f, e⟩ := h.b3
  have hat : (setCells wa g3 0 [z0, z1, z2, z3]).heap[g3]? = some (.cells #[z0, z1, z2, z3] 33 (0, 0)) := setCells_atG [z0, z1, z2, z3] 0 e (by simp)
  exact ⟨{ hb := setCells_below hG.n3 _ 0 h.hb, d6 := cden_stay th_ok h.d6 hg (fun j e => by cases e; exact .inr hG.h3), df := cden_stay rq_ok2 h.df hg (fun j e => by cases e; exact .inr hG.h3), b7 := block_other h.b7 hg hne, rd := h.rd.grown hg (fun k e => by cases e; exact ⟨hG.e3, Nat.le_trans hG.cb hG.n3⟩), sz := Nat.le_trans h.sz hg.size, b3 := ⟨_, _, _, _, hat⟩, b4 := let ⟨a, b, d, f, e⟩ := h.b4; ⟨a, b, d, f, block_other e hg (fun e => hG.e34 (Option.some.inj e))⟩ }, hat⟩
theorem EvI.s4 (hG : EvG c w0 g3 g4 g7) (h : EvI c w0 g3 g4 g7 who act what vf v6 N wa) (z0 z1 z2 z3 : Value) : EvI c w0 g3 g4 g7 who act what vf v6 N (setCells wa g4 0 [z0, z1, z2, z3]) ∧ (setCells wa g4 0 [z0, z1, z2, z3]).heap[g4]? = some (.cells #[z0, z1, z2, z3] 36 (0, 0)) := by
  have hg := setCells_grown g4 [z0, z1, z2, z3] wa 0
  have hne : some g4 ≠ some g7 := fun e => by
    cases e
    have := hG.h4
    have := hG.h7
    omega
  obtain ⟨a, b, d, f, e⟩ := h.b4
  have hat : (setCells wa g4 0 [z0, z1, z2, z3]).heap[g4]? = some (.cells #[z0, z1, z2, z3] 36 (0, 0)) := setCells_atG [z0, z1, z2, z3] 0 e (by simp)
  exact ⟨{ hb := setCells_below hG.n4 _ 0 h.hb, d6 := cden_stay th_ok h.d6 hg (fun j e => by cases e; exact .inr hG.h4), df := cden_stay rq_ok2 h.df hg (fun j e => by cases e; exact .inr hG.h4), b7 := block_other h.b7 hg hne, rd := h.rd.grown hg (fun k e => by cases e; exact ⟨hG.e4, Nat.le_trans hG.cb hG.n4⟩), sz := Nat.le_trans h.sz hg.size, b4 := ⟨_, _, _, _, hat⟩, b3 := let ⟨a, b, d, f, e⟩ := h.b3; ⟨a, b, d, f, block_other e hg (fun e => hG.e34 (Option.some.inj e).symm)⟩ }, hat⟩
end
/-- An expression drawn. -/
def ExDv (c : Ctx) (w : World) (v : Value) : Prop := ∃ (t : Ex) (A : Option Addr) (q : Nat), v = .agg #[.int .i64 t.k, .int .i64 t.n, .string t.s, .slice A t.ps.length q] ∧ shE 5 t.ps ∧ t.s.size ≤ 16 ∧ DrV 5 c t w A
theorem ExDv.grown {c : Ctx} {w w' : World} {v : Value} {row : Option Nat} (h : ExDv c w v) (hg : w.grownBy w' row) (hr : ∀ k, row = some k → k = c.br ∨ k < c.B) : ExDv c w' v := let ⟨t, A, q, e, h1, h2, h3⟩ := h; ⟨t, A, q, e, h1, h2, h3.grown hg hr⟩
/-- An expression in a box. -/
def ExH (c : Ctx) (g : Nat) (w : World) : Prop := ∃ (t : Ex) (A : Option Addr) (q : Nat), w.heap[g]? = some (.cells #[.int .i64 t.k, .int .i64 t.n, .string t.s, .slice A t.ps.length q] 36 (0, 0)) ∧ shE 5 t.ps ∧ t.s.size ≤ 16 ∧ DrV 5 c t w A
theorem ExH.grown {c : Ctx} {g : Nat} {w w' : World} {row : Option Nat} (h : ExH c g w) (hg : w.grownBy w' row) (hr : ∀ k, row = some k → k = c.br ∨ k < c.B) (hne : row ≠ some g) : ExH c g w' := let ⟨t, A, q, e, h1, h2, h3⟩ := h; ⟨t, A, q, block_other e hg hne, h1, h2, h3.grown hg hr⟩
def rowEv (c : Ctx) (g3 g4 : Nat) : Nat → Option Nat
  | 3 => some c.br
  | 5 => some g3
  | 6 => some g4
  | _ => Option.none
theorem rowEv_ok {c : Ctx} {w0 : World} {g3 g4 g7 : Nat} (hG : EvG c w0 g3 g4 g7) (i : Nat) : ∀ k, rowEv c g3 g4 i = some k → k = c.br ∨ k < c.B := by
  intro k hk
  match i, hk with
  | 3, hk => cases hk; exact .inl rfl
  | 5, hk => cases hk; exact .inr hG.h3
  | 6, hk => cases hk; exact .inr hG.h4
  | 0, hk => cases hk
  | 1, hk => cases hk
  | 2, hk => cases hk
  | 4, hk => cases hk
  | n + 7, hk => cases hk
set_option maxRecDepth 100000 in
set_option maxHeartbeats 4000000 in
theorem drawEvaluate_d {A : Option Addr} {l : List Int} {q : Nat} {w : World} (hC : CodeR w w.heap.size A l) (hq : l.length ≤ q) :
    Calls Tryz.prog 7 #[.slice A l.length q] w fun e w' => ∃ (W : WL) (r : Rq) (t : Ex) (A B C : Option Addr) (c c2 ct : Nat), e = .returned (.tuple #[.slice A W.length c, rqV r B c2, .agg #[.int .i64 t.k, .int .i64 t.n, .string t.s, .slice C t.ps.length ct]]) ∧ wlR w' A W ∧ WfW W ∧ fdR w' B r.fs ∧ WfFd r.fs ∧ exW 5 w' C t.ps ∧ shE 5 t.ps ∧ t.s.size ≤ 16 ∧ Below w.heap.size w w' := by
  obtain ⟨g, hg⟩ : ∃ g, g = w.heap.size := ⟨_, rfl⟩
  obtain ⟨W, hW⟩ : ∃ W, W = (w.alloc (.cells #[.int .i64 0, .int .i64 0, .int .i64 0, .slice Option.none 0 0] 33)).alloc (.cells #[.int .i64 0, .int .i64 0, .string ⟨#[]⟩, .slice Option.none 0 0] 36) := ⟨_, rfl⟩
  have hbW : Below w.heap.size w W := by rw [hW]; (repeat (first | exact Below.refl _ _ | refine ext_alloc ?_ _ | refine Below.setCell ?_ (by simp) _))
  have hgb : W.heap[g]? = some (.cells #[.int .i64 0, .int .i64 0, .int .i64 0, .slice Option.none 0 0] 33 (0, 0)) := by rw [hW, hg]; exact block_in (heap_alloc_new _ _) (below_alloc _ _)
  have hgb2 : W.heap[g + 1]? = some (.cells #[.int .i64 0, .int .i64 0, .string ⟨#[]⟩, .slice Option.none 0 0] 36 (0, 0)) := by rw [hW, hg]; exact heap_alloc_at (by simp)
  have hsz : W.heap.size = g + 1 + 1 := by rw [hW, hg]; simp
  have HC := Lib.hid (hC.below hbW)
  have HL := Lib.hid hC.1
  have HW := Lib.hid hW
  have HG := Lib.hid hg
  have HBW := Lib.hid hbW
  have HGB := Lib.hid hgb
  have HGB2 := Lib.hid hgb2
  have HSZ := Lib.hid hsz
  clear hW hg hbW hgb hgb2 hsz
  go_enter Tryz.func7, Tryz.ntmps7
  go_wp2_with fail
  rw [← HW.out, ← HG.out]
  refine (l20Open_any HBW.out.size HC.out hq HL.out).mono ?_
  rintro e w1 ⟨rfl, hR, hb⟩
  have HB1 := Lib.hid (ext_trans HBW.out hb)
  have HBb := Lib.hid hb
  have HLT := Lib.hid hR.lt
  obtain ⟨c, hc⟩ : ∃ c : Ctx, c = ⟨w1.heap.size, W.heap.size, w.heap.size, undef, 0⟩ := ⟨_, rfl⟩
  have hR1 : RdrT w1 c.br c.cb 0 := by rw [hc]; exact ⟨0, by omega, by omega, hR⟩
  have hcB : c.B = w1.heap.size := by rw [hc]
  have hcr : c.br = W.heap.size := by rw [hc]
  have hcc : c.cb = w.heap.size := by rw [hc]
  have HCC : Hid (c.B = w1.heap.size ∧ c.br = W.heap.size ∧ c.cb = w.heap.size ∧ c.cb ≤ c.B) := Lib.hid ⟨hcB, hcr, hcc, by rw [hcB, hcc]; exact HB1.out.size⟩
  have HX := Lib.hid (l20Things_d (c := c) (w := w1) (N := 0) (n := 14) (by rw [hcB]; exact Nat.le_refl _) HCC.out.2.2.2 hR1 (by decide) (by decide) (by decide))
  have hcp : Value.pointer (some ⟨W.heap.size, 0, Option.none⟩) = Value.pointer (some ⟨c.br, 0, Option.none⟩) := by rw [hcr]
  rw [hcp]
  clear hb hR hR1 hc hcp hcB hcr hcc
  go_wp2_with fail
  refine HX.out.mono ?_
  rintro e w2 ⟨A6, m6, q6, rfl, hm6, hd6, hR2, hg2⟩
  have HM6 := Lib.hid hm6
  have HD6 := Lib.hid hd6
  have HG2 := Lib.hid hg2
  have HX2 := Lib.hid (l20Request_d (c := c) (w := w2) (N := 0 + 40000) (m := m6) (q := q6) (n := 14) (A := A6) (Nat.le_trans (Nat.le_of_eq HCC.out.1) hg2.size) HCC.out.2.2.2 hR2 (by decide) hm6 (by decide) (by decide))
  clear HX hR2 hg2 hd6 hm6
  go_wp2_with fail
  refine HX2.out.mono ?_
  rintro e w3 ⟨who, act, what, Af, mf, qf, rfl, hdf, hR3, hg3⟩
  obtain ⟨g7, hg7⟩ : ∃ g, g = w3.heap.size := ⟨_, rfl⟩
  obtain ⟨X, hX⟩ : ∃ X, X = w3.alloc (.cells #[.int .i64 who, .int .i64 act, .int .i64 what, (.slice Af mf qf)] 33) := ⟨_, rfl⟩
  have hbX : Below w3.heap.size w3 X := by rw [hX]; exact below_alloc _ _
  have hsz7 : X.heap.size = g7 + 1 := by rw [hX, hg7]; simp
  have hcq : X.heap[g7]? = some (.cells #[.int .i64 who, .int .i64 act, .int .i64 what, (.slice Af mf qf)] 33 (0, 0)) := by rw [hX, hg7]; exact heap_alloc_new _ _
  have hEG : EvG c w g (g + 1) g7 := by
    have h1 := HCC.out.1
    have h2 := HCC.out.2.1
    have h3 := HCC.out.2.2.1
    have h4 := HBb.out.size
    have h5 := HG2.out.size
    have h6 := hg3.size
    have h7 := HSZ.out
    have h8 := HG.out
    have h9 := HLT.out
    exact { h3 := by omega, h4 := by omega, n3 := by omega, n4 := by omega, e34 := by omega, e3 := by omega, e4 := by omega, h7 := by omega, e7 := by omega, n0 := by omega, cb := by omega }
  have hb3 : Below w.heap.size w w3 := (HB1.out.grown HG2.out HB1.out.size (fun k e => by cases e; exact hEG.n0)).grown hg3 (Nat.le_trans HB1.out.size HG2.out.size) (fun k e => by cases e; exact hEG.n0)
  have hq3 : w3.heap[g]? = some (.cells #[.int .i64 0, .int .i64 0, .int .i64 0, .slice Option.none 0 0] 33 (0, 0)) := block_other (block_other (block_below HGB.out HBb.out) HG2.out (fun e => hEG.e3 (Option.some.inj e).symm)) hg3 (fun e => hEG.e3 (Option.some.inj e).symm)
  have hq4 : w3.heap[g + 1]? = some (.cells #[.int .i64 0, .int .i64 0, .string ⟨#[]⟩, .slice Option.none 0 0] 36 (0, 0)) := block_other (block_other (block_below HGB2.out HBb.out) HG2.out (fun e => hEG.e4 (Option.some.inj e).symm)) hg3 (fun e => hEG.e4 (Option.some.inj e).symm)
  have hEI : EvI c w g (g + 1) g7 who act what (.slice Af mf qf) (.slice A6 m6 q6) 60000 X :=
    { hb := ext_trans hb3 hbX, d6 := cden_stay th_ok (cden_stay th_ok HD6.out hg3 (fun j e => by cases e; exact .inl rfl)) (grown_of_below hbX Option.none) (fun j e => by cases e), df := cden_stay rq_ok2 hdf (grown_of_below hbX Option.none) (fun j e => by cases e), b7 := hcq, rd := (hR3.below hbX).mono (by decide), sz := by
        have h1 := HCC.out.1
        have h5 := HG2.out.size
        have h6 := hg3.size
        omega
      b3 := ⟨_, _, _, _, block_below hq3 hbX⟩, b4 := ⟨_, _, _, _, block_below hq4 hbX⟩ }
  have HEG := Lib.hid hEG
  have HEI := Lib.hid hEI
  have HXX := Lib.hid hX
  have HG7 := Lib.hid hg7
  clear hEG hEI hX hg7 hb3 hq3 hq4 hcq hsz7 hbX hR3 hg3 hdf HX2
  go_wp2_with fail
  rw [← HXX.out, ← HG7.out]
  refine wp_region_draws2L Option.none (fun c => c == 5 || c == 6) 1 16 (fun _ => True) (fun i u wz => match i with | 5 => wz.heap[g]? = some (.cells #[.int .i64 who, .int .i64 act, .int .i64 what, (.slice Af mf qf)] 33 (0, 0)) | 6 => ExH c (g + 1) wz | _ => True)
    (fun i u wz vz => match i with | 0 => vz = .slice A6 m6 q6 | 1 => vz = .agg #[.int .i64 who, .int .i64 act, .int .i64 what, (.slice Af mf qf)] | 2 => vz = .pointer (some ⟨c.br, 0, Option.none⟩) | 3 => ExDv c wz vz | 4 => vz = .slice A6 m6 q6 | _ => True)
    (fun k wz => EvI c w g (g + 1) g7 who act what (.slice Af mf qf) (.slice A6 m6 q6) (60000 + 1000000 * k) wz) (fun i wa wb => wa.grownBy wb (rowEv c g (g + 1) i)) (fun _ => Option.none) (by kernel_rfl) (by kernel_rfl) (by kernel_rfl) ?stab (fun _ _ _ _ _ _ _ => trivial) rfl ?hdm rfl ?hTu ?stabH ?inv trivial ?all ?fin
  case stab =>
    intro i j wa wb v hR _ _ _ _ _ u hT
    match j, hT with
    | 0, hT => exact hT
    | 1, hT => exact hT
    | 2, hT => exact hT
    | 3, hT => exact ExDv.grown hT hR (rowEv_ok HEG.out i)
    | 4, hT => exact hT
    | n + 5, _ => trivial
  case hdm =>
    intro x hx
    have h : x = 5 ∨ x = 6 := by simpa using hx
    rcases h with rfl | rfl
    · exact (show depB _ 5 1 = true from by kernel_rfl)
    · exact (show depB _ 6 1 = true from by kernel_rfl)
  case hTu =>
    intro i u u' wa v _ _ hT
    exact hT
  case stabH =>
    intro x i wa wb u hx hR hne hd h
    have hx2 : x = 5 ∨ x = 6 := by simpa using hx
    have hG := HEG.out
    rcases hx2 with rfl | rfl
    · refine block_other h hR ?_
      match i, hne with
      | 0, _ => exact fun e => by cases e
      | 1, _ => exact fun e => by cases e
      | 2, _ => exact fun e => by cases e
      | 3, _ => exact fun e => hG.e3 (Option.some.inj e).symm
      | 4, _ => exact fun e => by cases e
      | 5, hne => exact absurd rfl hne
      | 6, _ => exact fun e => hG.e34 (Option.some.inj e).symm
      | n + 7, _ => exact fun e => by cases e
    · refine ExH.grown h hR (rowEv_ok hG i) ?_
      match i, hne with
      | 0, _ => exact fun e => by cases e
      | 1, _ => exact fun e => by cases e
      | 2, _ => exact fun e => by cases e
      | 3, _ => exact fun e => hG.e4 (Option.some.inj e).symm
      | 4, _ => exact fun e => by cases e
      | 5, _ => exact fun e => hG.e34 (Option.some.inj e)
      | 6, hne => exact absurd rfl hne
      | n + 7, _ => exact fun e => by cases e
  case inv =>
    have h := HEI.out
    exact EvI.mono (N := 60000) (by
      have hd : Below X.heap.size X X.drew := ext_drew (Below.refl _ _)
      exact { h with hb := ext_trans h.hb hd, d6 := cden_stay th_ok h.d6 (grown_of_below hd Option.none) (fun j e => by cases e), df := cden_stay rq_ok2 h.df (grown_of_below hd Option.none) (fun j e => by cases e), rd := h.rd.below hd }) (by omega)
  case all =>
    refine RAllL.cons rfl ?_ (RAllL.cons rfl ?_ (RAllL.cons rfl ?_ (RAllL.cons rfl ?_ (RAllL.cons rfl ?_ (RAllL.cons rfl ?_ (RAllL.cons rfl ?_ (RAllL.none_)))))))
    · intro a k wa K Q _ hI hp hK0
      exact op_move _ (.inl rfl) (hK0 _ _ (hp.keep 6 (by kernel_rfl)) (World.grownBy.refl _ _) (hI.mono (by omega)) (fun e => absurd e (by decide)))
    · intro a k wa K Q _ hI hp hK0
      have e7 := tmp_of (show a.eval (.tmp 7) = .pointer (some ⟨g7, 0, Option.none⟩) from hp.keep 7 (by kernel_rfl))
      obtain ⟨x0, x1, x2, x3⟩ := cells4 hI.b7
      go_simp
      exact hK0 _ _ rfl (World.grownBy.refl _ _) (hI.mono (by omega)) (fun e => absurd e (by decide))
    · intro a k wa K Q _ hI hp hK0
      exact op_move _ (.inl rfl) (hK0 _ _ (hp.keep 5 (by kernel_rfl)) (World.grownBy.refl _ _) (hI.mono (by omega)) (fun e => absurd e (by decide)))
    · intro a k wa K Q hk hI hp hK0
      replace hk : k < 7 := hk
      have e17 := tmp_of (show a.eval (.tmp 17) = .pointer (some ⟨c.br, 0, Option.none⟩) from hp.dep 2 17 (by kernel_rfl))
      have HC2 := Lib.hid (l20Expr_d (c := c) (w := wa) (N := 60000 + 1000000 * k) (n := 6) hI.sz HCC.out.2.2.2 hI.rd (by omega) (by decide) (by decide))
      have HI := Lib.hid hI
      clear hI
      go_simp
      refine HC2.out.mono ?_
      rintro e wb ⟨t, A', q', rfl, hsh, hs, hd, hRb, hgb⟩
      exact hK0 _ _ ⟨t, A', q', rfl, hsh, hs, hd⟩ hgb ((HI.out.br HEG.out hgb hRb).mono (by omega)) (fun e => absurd e (by decide))
    · intro a k wa K Q _ hI hp hK0
      exact op_move _ (.inr rfl) (hK0 _ _ (hp.dep 0 15 (by kernel_rfl)) (World.grownBy.refl _ _) (hI.mono (by omega)) (fun e => absurd e (by decide)))
    · intro a k wa K Q _ hI hp hK0
      have e3 := tmp_of (show a.eval (.tmp 3) = .pointer (some ⟨g, 0, Option.none⟩) from hp.keep 3 (by kernel_rfl))
      have e16 := tmp_of (show a.eval (.tmp 16) = .agg #[.int .i64 who, .int .i64 act, .int .i64 what, (.slice Af mf qf)] from hp.dep 1 16 (by kernel_rfl))
      obtain ⟨hI2, hat⟩ := hI.s3 HEG.out (.int .i64 who) (.int .i64 act) (.int .i64 what) (.slice Af mf qf)
      obtain ⟨u0, u1, u2, u3, hbx⟩ := hI.b3
      obtain ⟨y0, y1, y2, y3⟩ := cells4 hbx
      obtain ⟨z0, z1, z2, z3⟩ := froz4 hbx
      have HS := Lib.hid (setCells_grown g [.int .i64 who, .int .i64 act, .int .i64 what, (.slice Af mf qf)] wa 0)
      have HI2 := Lib.hid hI2
      have HAT := Lib.hid hat
      clear hI hI2 hat hbx
      go_simp
      exact hK0 undef _ trivial HS.out (HI2.out.mono (by omega)) (fun _ => HAT.out)
    · intro a k wa K Q _ hI hp hK0
      have e4 := tmp_of (show a.eval (.tmp 4) = .pointer (some ⟨g + 1, 0, Option.none⟩) from hp.keep 4 (by kernel_rfl))
      obtain ⟨t, A', q', ev, hsh, hs, hd⟩ : ExDv c wa (a.eval (.tmp 18)) := hp.dep 3 18 (by kernel_rfl)
      have e18 := tmp_of ev
      obtain ⟨hI2, hat⟩ := hI.s4 HEG.out (.int .i64 t.k) (.int .i64 t.n) (.string t.s) (.slice A' t.ps.length q')
      obtain ⟨u0, u1, u2, u3, hbx⟩ := hI.b4
      obtain ⟨y0, y1, y2, y3⟩ := cells4 hbx
      obtain ⟨z0, z1, z2, z3⟩ := froz4 hbx
      have HS := Lib.hid (setCells_grown (g + 1) [.int .i64 t.k, .int .i64 t.n, .string t.s, .slice A' t.ps.length q'] wa 0)
      have HI2 := Lib.hid hI2
      have HH : Hid (ExH c (g + 1) (setCells wa (g + 1) 0 [.int .i64 t.k, .int .i64 t.n, .string t.s, .slice A' t.ps.length q'])) := Lib.hid ⟨t, A', q', hat, hsh, hs, hd.grown HS.out (fun k e => by cases e; exact .inr HEG.out.h4)⟩
      clear hI hI2 hat hbx hd hsh hs ev
      go_simp
      exact hK0 undef _ trivial HS.out (HI2.out.mono (by omega)) (fun _ => HH.out)
  case fin =>
    intro f w4 hT hI0 hH
    have hr4 : f 4 = .slice A6 m6 q6 := hT 4 (by decide) rfl rfl
    have h5 := hH 5 rfl (by decide)
    obtain ⟨t, C, ct, h6, hsh, hs, hd⟩ : ExH c (g + 1) w4 := hH 6 rfl (by decide)
    replace h5 : w4.heap[g]? = some (.cells #[.int .i64 who, .int .i64 act, .int .i64 what, (.slice Af mf qf)] 33 (0, 0)) := h5
    obtain ⟨W4, A, q4, e6, hWr, hWf⟩ := ths_of th_ok rfl rfl rfl (by decide) hI0.d6
    obtain ⟨fs, B, q5, e7, _, hFr, hFf⟩ := fds_of rq_ok2 rfl (by decide) hI0.df
    have HB4 := Lib.hid hI0.hb
    have HWR := Lib.hid hWr
    have HFR := Lib.hid hFr
    have HD := Lib.hid hd.w
    rw [e7] at h5
    rw [e6] at hr4
    obtain ⟨x0, x1, x2, x3⟩ := cells4 h5
    obtain ⟨y0, y1, y2, y3⟩ := cells4 h6
    clear hT hI0 hH h5 h6 hd hWr hFr e6 e7
    simp only [putAll, hr4]
    go_simp
    go_wp2
    exact bodyPost_ret (v := .tuple #[.slice A W4.length q4, .agg #[.int .i64 who, .int .i64 act, .int .i64 what, .slice B fs.length q5], .agg #[.int .i64 t.k, .int .i64 t.n, .string t.s, .slice C t.ps.length ct]]) (by simp [results, go_sem, x0, x1, x2, x3, y0, y1, y2, y3]) rfl ⟨W4, ⟨who, act, what, fs⟩, t, A, B, C, q4, q5, ct, rfl, HWR.out, hWf, HFR.out, hFf, HD.out, hsh, hs, HB4.out⟩
end Go.Proofs.YtodjokdaofefdaaGreat
/- The law of CheckPolicy, walked. -/
namespace Go.Proofs.YtodjokdaofefdaaGreat
set_option linter.unusedSimpArgs false
set_option linter.unusedVariables false
open Go.RowKit

theorem CodeR.mono_ {w : World} {cb cb' : Nat} {A : Option Addr} {l : List Int} (h : CodeR w cb A l) (hb : cb ≤ cb') : CodeR w cb' A l :=
  ⟨h.1, fun hn => let ⟨b, off, e, hb0, hc⟩ := h.2 hn; ⟨b, off, e, Nat.lt_of_lt_of_le hb0 hb, hc⟩⟩
end Go.Proofs.YtodjokdaofefdaaGreat
