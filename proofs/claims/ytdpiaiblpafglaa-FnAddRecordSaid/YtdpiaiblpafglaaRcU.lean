/- FnAddRecord, walked. -/
import Derived.Test.YtdpiaiblpafglaaRcS
namespace Go.Proofs.Ytdpiaiblpafglaa
set_option linter.unusedSimpArgs false
set_option linter.unusedVariables false
open Go.RowKit

theorem rcPost_rd {w w' : World} {l : RcL} {b : Bool} {e : Ending} (h : RcPost w l b e w') (hl : l.length ≤ 9223372036854775807) (hf : ∀ r ∈ l, (rfs r).length ≤ 9223372036854775807) :
    ∃ A c, e = .returned (.tuple #[.slice A l.length c, .bool b]) ∧ rcR w' A l ∧ l.length ≤ c ∧ c ≤ 9223372036854775807 ∧ (A = Option.none ∨ ∃ g, A = some ⟨g, 0, Option.none⟩) ∧ Below w.heap.size w w' := by
  obtain ⟨A, c, rfl, ho, hb⟩ := h
  have hr := rcR.own hl hf ho
  obtain ⟨A', c', xs, e, h1, _⟩ := ho
  cases e
  refine ⟨A, c, rfl, hr, ?_⟩
  rcases own_split2 h1 with ⟨rfl, h2, rfl⟩ | ⟨g, rfl, h2, h3⟩
  · exact ⟨by omega, by omega, .inl rfl, hb⟩
  · exact ⟨h2, h3, .inr ⟨g, rfl⟩, hb⟩
theorem addR_mem {l : RcL} {tm : Int} {q : Rq} {al : Bool} (hf : FewF 1048576 l) (hq : q.2.2.2.length ≤ 1048576) : ∀ r ∈ (rcAdd l tm q al).1, (rfs r).length ≤ 9223372036854775807 := by
  unfold rcAdd
  split
  · split
    · intro r hr
      rcases List.mem_append.1 hr with hr | hr
      · exact hf.mem r hr
      · rw [List.mem_singleton.1 hr]; show q.2.2.2.length ≤ _; omega
    · exact hf.mem
  · simp
theorem implAddRecord_v {A A2 : Option Addr} {l x : RcL} {b : Bool} {fs : FdL} {c c2 : Nat} {tm who act what : Int} {al : Bool} {w : World} (hv : rcAdd l tm (who, act, what, fs) al = (x, b)) (hU : rcR w A l) (hV : fdR w A2 fs) (hn : l.length ≤ 1048576) (hf : FewF 1048576 l) (hn2 : fs.length ≤ 1048576) :
    Calls Try.prog 25 #[.slice A l.length c, .int .i64 tm, .agg #[.int .i64 who, .int .i64 act, .int .i64 what, .slice A2 fs.length c2], .bool al] w fun e w' => ∃ A c, e = .returned (.tuple #[.slice A x.length c, .bool b]) ∧ rcR w' A x ∧ x.length ≤ c ∧ c ≤ 9223372036854775807 ∧ (A = Option.none ∨ ∃ g, A = some ⟨g, 0, Option.none⟩) ∧ Below w.heap.size w w' := by
  have h1 : (rcAdd l tm (who, act, what, fs) al).1 = x := by rw [hv]
  have h2 : (rcAdd l tm (who, act, what, fs) al).2 = b := by rw [hv]
  refine (implAddRecord hU hV hn hf hn2).mono fun e w' h => ?_
  have hl : (rcAdd l tm (who, act, what, fs) al).1.length ≤ 9223372036854775807 := by have := rcAdd_few (l := l) (tm := tm) (q := (who, act, what, fs)) (al := al); omega
  have := rcPost_rd h hl (addR_mem hf hn2)
  rw [h1, h2] at this
  exact this
theorem specAddRecord_v {A A2 : Option Addr} {l x : RcL} {b : Bool} {fs : FdL} {c c2 : Nat} {tm who act what : Int} {al : Bool} {w : World} (hv : rcAdd l tm (who, act, what, fs) al = (x, b)) (hU : rcR w A l) (hV : fdR w A2 fs) (hn : l.length ≤ 1048576) (hf : FewF 1048576 l) (hn2 : fs.length ≤ 1048576) :
    Calls Try.prog 26 #[.slice A l.length c, .int .i64 tm, .agg #[.int .i64 who, .int .i64 act, .int .i64 what, .slice A2 fs.length c2], .bool al] w fun e w' => ∃ A c, e = .returned (.tuple #[.slice A x.length c, .bool b]) ∧ rcR w' A x ∧ x.length ≤ c ∧ c ≤ 9223372036854775807 ∧ (A = Option.none ∨ ∃ g, A = some ⟨g, 0, Option.none⟩) ∧ Below w.heap.size w w' := by
  have h1 : (rcAdd l tm (who, act, what, fs) al).1 = x := by rw [hv]
  have h2 : (rcAdd l tm (who, act, what, fs) al).2 = b := by rw [hv]
  refine (specAddRecord hU hV hn hf hn2).mono fun e w' h => ?_
  have hl : (rcAdd l tm (who, act, what, fs) al).1.length ≤ 9223372036854775807 := by have := rcAdd_few (l := l) (tm := tm) (q := (who, act, what, fs)) (al := al); omega
  have := rcPost_rd h hl (addR_mem hf hn2)
  rw [h1, h2] at this
  exact this
theorem sameRecords_v {A A' : Option Addr} {us vs : RcL} {c c' n n' : Nat} {b : Bool} {w : World} (hn : us.length = n) (hn' : vs.length = n') (hb : sameB us vs = b) (hU : rcR w A us) (hV : rcR w A' vs) :
    Calls Try.prog 27 #[.slice A n c, .slice A' n' c'] w fun e w' => e = .returned (.bool b) ∧ Below w.heap.size w w' := by
  subst hn; subst hn'; subst hb; exact sameRecords_any hU hV
theorem sameRequest_v {A A' : Option Addr} {fs : FdL} {c c' : Nat} {who act what : Int} {w : World} (hU : fdR w A fs) (hV : fdR w A' fs) :
    Calls Try.prog 28 #[.agg #[.int .i64 who, .int .i64 act, .int .i64 what, .slice A fs.length c], .agg #[.int .i64 who, .int .i64 act, .int .i64 what, .slice A' fs.length c']] w fun e w' => e = .returned (.bool true) ∧ Below w.heap.size w w' := by
  have h := sameRequest_any (who := who) (act := act) (what := what) (who' := who) (act' := act) (what' := what) (c := c) (c' := c') hU hV
  rwa [sameB_self] at h
theorem rcAdd_split {l x : RcL} {tm : Int} {q : Rq} {al b : Bool} (h : rcAdd l tm q al = (x, b)) : (b = false ∧ (x = [] ∨ x = l)) ∨ (b = true ∧ ∃ n, x = l ++ [(tm, q.1, q.2.1, q.2.2.1, q.2.2.2, al, n)] ∧ rcRight x = -1) := by
  unfold rcAdd at h
  split at h
  · split at h
    · rename_i h2
      cases h
      exact .inr ⟨rfl, _, rfl, h2⟩
    · cases h; exact .inl ⟨rfl, .inr rfl⟩
  · cases h; exact .inl ⟨rfl, .inl rfl⟩
set_option maxRecDepth 100000 in
set_option maxHeartbeats 8000000 in
theorem lawAddRecord {A : Option Addr} {l : List Int} {c : Nat} {w : World} (hC : CodeR w w.heap.size A l) (hc : l.length ≤ c) :
    Calls Try.prog 7 #[.slice A l.length c] w fun e w' => e = .returned (.bool true) ∧ Below w.heap.size w w' := by
  by_cases h : (1048576 : Int) < l.length
  · go_enter Try.func7, Try.ntmps7
    go_wp2
    go_ret
    exact ⟨rfl, Below.refl _ _⟩
  · go_enter Try.func7, Try.ntmps7
    go_wp2_with fail
    refine (DrawAddRecord_d hC hc).mono ?_
    rintro e w1 ⟨us, Au, cu, tm, who, act, what, fs, A2, c2, al, rfl, hn, hf, hfl, hU, hV, hB⟩
    have q0 := box_cell w1 #[.int .i64 who, .int .i64 act, .int .i64 what, .slice A2 fs.length c2] 25 0 (.int .i64 who) rfl
    have q1 := box_cell w1 #[.int .i64 who, .int .i64 act, .int .i64 what, .slice A2 fs.length c2] 25 1 (.int .i64 act) rfl
    have q2 := box_cell w1 #[.int .i64 who, .int .i64 act, .int .i64 what, .slice A2 fs.length c2] 25 2 (.int .i64 what) rfl
    have q3 := box_cell w1 #[.int .i64 who, .int .i64 act, .int .i64 what, .slice A2 fs.length c2] 25 3 (.slice A2 fs.length c2) rfl
    have hbl := below_alloc w1 (.cells #[.int .i64 who, .int .i64 act, .int .i64 what, .slice A2 fs.length c2] 25)
    replace hU := hU.below hbl
    replace hV := hV.below hbl
    obtain ⟨X, hX⟩ : ∃ X, X = w1.alloc (.cells #[.int .i64 who, .int .i64 act, .int .i64 what, .slice A2 fs.length c2] 25) := ⟨_, rfl⟩
    obtain ⟨g, hg⟩ : ∃ g, g = w1.heap.size := ⟨_, rfl⟩
    rw [← hX] at q0 q1 q2 q3 hbl hU hV
    rw [← hg] at q0 q1 q2 q3
    replace hB := ext_trans hB hbl
    obtain ⟨x, b, hxb⟩ : ∃ x b, rcAdd us tm (who, act, what, fs) al = (x, b) := ⟨_, _, rfl⟩
    have hsp := rcAdd_split hxb
    have HX := Lib.hid hX
    have HG := Lib.hid hg
    have HF := Lib.hid hf
    have HXB := Lib.hid hxb
    clear hX hg hbl hf hxb
    go_wp2_with fail
    rw [← HX.out, ← HG.out]
    refine (implAddRecord_v HXB.out hU hV (by omega) HF.out (by omega)).mono ?_
    rintro e w2 ⟨A3, c3, rfl, hR, h3c, h3m, h3A, hb2⟩
    replace hB := ext_trans hB hb2
    replace hU := hU.below hb2
    replace hV := hV.below hb2
    replace q0 := below_cell hb2 q0
    replace q1 := below_cell hb2 q1
    replace q2 := below_cell hb2 q2
    replace q3 := below_cell hb2 q3
    clear hb2
    go_wp2_with fail
    refine (specAddRecord_v HXB.out hU hV (by omega) HF.out (by omega)).mono ?_
    rintro e w3 ⟨A4, c4, rfl, hR4, h4c, h4m, h4A, hb3⟩
    replace hB := ext_trans hB hb3
    replace hU := hU.below hb3
    replace hV := hV.below hb3
    replace hR := hR.below hb3
    replace q0 := below_cell hb3 q0
    replace q1 := below_cell hb3 q1
    replace q2 := below_cell hb3 q2
    replace q3 := below_cell hb3 q3
    clear hb3
    go_wp2_with fail
    refine (sameRecords_v rfl rfl (sameB_self x) hR hR4).mono ?_
    rintro e w4 ⟨rfl, hb4⟩
    replace hB := ext_trans hB hb4
    replace hU := hU.below hb4
    replace hV := hV.below hb4
    replace hR := hR.below hb4
    replace q0 := below_cell hb4 q0
    replace q1 := below_cell hb4 q1
    replace q2 := below_cell hb4 q2
    replace q3 := below_cell hb4 q3
    clear hb4 hR4 h4c h4m h4A
    rcases hsp with ⟨rfl, hx⟩ | ⟨rfl, n, hx, hr⟩
    · obtain ⟨s, hs⟩ : ∃ s, sameB x us = s := ⟨_, rfl⟩
      have h0 : s = true ∨ (s = false ∧ x.length = 0) := by
        rcases hx with rfl | rfl
        · cases s
          · exact .inr ⟨rfl, rfl⟩
          · exact .inl rfl
        · rw [sameB_self] at hs; exact .inl hs.symm
      have HS := Lib.hid hs
      clear hx hs
      go_wp2_with fail
      refine (sameRecords_v rfl rfl HS.out hR hU).mono ?_
      rintro e w5 ⟨rfl, hb5⟩
      replace hB := ext_trans hB hb5
      clear hb5
      rcases h0 with rfl | ⟨rfl, hx0⟩
      · go_wp2_with fail
        refine (alive_any _).mono ?_
        rintro e w6 ⟨rfl, hb6⟩
        replace hB := ext_trans hB hb6
        go_wp2
        go_ret
        exact ⟨rfl, hB⟩
      · have hx1 : ((x.length : Int) == 0) = true := by simp [hx0]
        clear hx0
        go_wp2_with fail
        refine (alive_any _).mono ?_
        rintro e w6 ⟨rfl, hb6⟩
        replace hB := ext_trans hB hb6
        go_wp2
        go_ret
        exact ⟨rfl, hB⟩
    · have hxl : x.length = us.length + 1 := by rw [hx]; simp
      have htk : x.take us.length = us := by rw [hx, List.take_left]
      have hat : rcAt x us.length = (tm, who, act, what, fs, al, n) := by
        rw [rcAt_eq (by omega)]
        simp only [hx]
        rw [List.getElem_append_right (Nat.le_refl _)]; simp
      obtain ⟨bb, off, rfl, hcl⟩ := hR.cells (by omega)
      obtain ⟨A5, c5, hfd, d0, d1, d2, d3, d4, d5, d6⟩ := hcl us.length (by omega)
      rw [rc4, hat] at hfd d4
      rw [rc0, hat] at d0
      rw [rc1, hat] at d1
      rw [rc2, hat] at d2
      rw [rc3, hat] at d3
      rw [rc5, hat] at d5
      rw [rc6, hat] at d6
      simp only [rtm, rwho, ract, rwhat, rfs, ral, rsl] at hfd d0 d1 d2 d3 d4 d5 d6
      have HT := Lib.hid htk
      have HXL := Lib.hid hxl
      have HR := Lib.hid hr
      have HTL : Hid ((x.take us.length).length = us.length) := Lib.hid (by rw [htk])
      have HSM : Hid (sameB (x.take us.length) us = true) := Lib.hid (by rw [htk]; exact sameB_self _)
      clear hx htk hat hr hcl
      have HXE : Hid (x.length = us.length + 1) := Lib.hid hxl
      have hz : (x.length : Int) = us.length + 1 := by omega
      clear hxl
      rw [HXE.out] at h3c
      rw [HXE.out]
      have hz2 : ((us.length + 1 : Nat) : Int) - 1 = us.length := by omega
      have hle : (us.length : Int) ≤ c3 := by omega
      clear hz
      go_wp2_with fail
      refine (implRecordsRight_v HXE.out HR.out (hR.below (by (repeat (first | exact Below.refl _ _ | refine ext_alloc ?_ _ | refine Below.setCell ?_ (by simp) _))))).mono ?_
      rintro e w5 ⟨rfl, hb5⟩
      obtain ⟨hcc, hff⟩ := bcell hb5
      have hsz := hb5.size
      simp at hsz
      have hgl := block_lt_of_cell q0
      simp only at hgl
      have hs1 : w4.heap.size < w5.heap.size := by omega
      have hs2 : g < w5.heap.size := by omega
      have hs3 : g < w4.heap.size + 1 := by omega
      replace hB := ext_trans (ext_alloc hB _) hb5
      replace hU := (hU.below (below_alloc _ _)).below hb5
      replace hR := (hR.below (below_alloc _ _)).below hb5
      replace hV := (hV.below (below_alloc _ _)).below hb5
      replace hfd := (hfd.below (below_alloc _ _)).below hb5
      go_wp2_with fail
      refine (sameRecords_v HTL.out rfl HSM.out (hR.take _) hU).mono ?_
      rintro e w6 ⟨rfl, hb6⟩
      obtain ⟨hcc2, hff2⟩ := bcell hb6
      have hsz2 := hb6.size
      replace hB := ext_trans hB hb6
      go_wp2_with fail
      refine (sameRequest_v (hfd.below hb6) (hV.below hb6)).mono ?_
      rintro e w7 ⟨rfl, hb7⟩
      replace hB := ext_trans hB hb7
      go_wp2
      go_ret
      exact ⟨rfl, hB⟩
end Go.Proofs.Ytdpiaiblpafglaa
