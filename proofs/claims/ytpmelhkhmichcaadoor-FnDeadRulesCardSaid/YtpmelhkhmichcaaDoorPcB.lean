/- Patterns that cover patterns: plain, and both walks. -/
import Derived.Test.YtpmelhkhmichcaaDoorPfE
namespace Go.Proofs.YtpmelhkhmichcaaDoor
set_option linter.unusedSimpArgs false
set_option linter.unusedVariables false
open Go.RowKit

/-- By the reference, from the n-th word on; la: how many words the wide one has. -/
def pcG : Nat → Nat → Wd → Wd → Bool
  | _, _, [], b => b.isEmpty
  | _, _, _ :: _, [] => false
  | n, la, x :: a, y :: b => if x = star2 then true else if y = star2 then decide (n + 1 = 5 ∧ la = 5 ∧ x = star1) else if ¬ x = star1 ∧ ¬ x = y then false else pcG (n + 1) la a b
def pcI (a b : Wd) : Bool := (lens b).all (fun v => covBy a v)
theorem pc_plain : ∀ (n la : Nat) (a b : Wd), (∀ y ∈ b, y ≠ star2) → pcG n la a b = fitG b a
  | _, _, [], b, _ => by cases b <;> rfl
  | _, _, _ :: _, [], _ => by rw [pcG, fitG]
  | n, la, x :: a, y :: b, h => by
    rw [pcG, fitG, if_neg (h y (by simp)), pc_plain (n + 1) la a b (fun z hz => h z (by simp [hz]))]
theorem fit_head {x y : ByteArray} {a b : Wd} (h2 : ¬ x = star2) (h : ¬ x = star1 ∧ ¬ x = y) : fitG (y :: b) (x :: a) = false := by
  rw [fitG, if_neg h2, if_pos h]
theorem fit_tail {x y : ByteArray} {a b : Wd} (h2 : ¬ x = star2) (h : ¬ (¬ x = star1 ∧ ¬ x = y)) : fitG (y :: b) (x :: a) = fitG b a := by
  rw [fitG, if_neg h2, if_neg h]
theorem pc_star : ∀ (pre : Wd) (n la : Nat) (a : Wd), (∀ y ∈ pre, y ≠ star2) → n + pre.length + 1 ≤ 5 → la = n + a.length →
    ((∀ j, j < 5 - (n + pre.length) → fitG (pre ++ List.replicate (j + 1) star1) a = true) ↔ pcG n la a (pre ++ [star2]) = true)
  | [], n, la, [], _, hn, _ => by
    simp only [List.nil_append, List.length_nil, Nat.add_zero]
    constructor
    · intro h
      have := h 0 (by simp at hn; omega)
      exact this
    · intro h
      rw [pcG] at h
      simp at h
  | [], n, la, x :: a, _, hn, hla => by
    simp only [List.nil_append, List.length_nil, Nat.add_zero]
    simp only [List.length_nil, Nat.add_zero] at hn
    rw [List.length_cons] at hla
    rw [pcG]
    by_cases h2 : x = star2
    · rw [if_pos h2]
      refine ⟨fun _ => rfl, fun _ j _ => ?_⟩
      rw [List.replicate_succ, fitG, if_pos h2]
    · rw [if_neg h2, if_pos rfl, decide_eq_true_eq]
      by_cases h1 : x = star1
      · have ht : ∀ j, fitG (List.replicate (j + 1) star1) (x :: a) = fitG (List.replicate j star1) a := fun j => by
          rw [List.replicate_succ]; exact fit_tail h2 (fun h => h.1 h1)
        simp only [ht]
        constructor
        · intro h
          have h0 := h 0 (by omega)
          have ha : a = [] := by
            cases a with
            | nil => rfl
            | cons z a => simp [fitG] at h0
          subst ha
          refine ⟨?_, ?_, h1⟩
          · rcases Nat.lt_or_ge (n + 1) 5 with hlt | hge
            · have h3 := h 1 (by omega)
              simp [List.replicate_succ, fitG] at h3
            · omega
          · rcases Nat.lt_or_ge (n + 1) 5 with hlt | hge
            · have h3 := h 1 (by omega)
              simp [List.replicate_succ, fitG] at h3
            · simp at hla; omega
        · rintro ⟨h3, h4, _⟩ j hj
          obtain rfl : j = 0 := by omega
          have ha : a = [] := List.eq_nil_of_length_eq_zero (by omega)
          subst ha
          rfl
      · constructor
        · intro h
          have h0 := h 0 (by omega)
          rw [List.replicate_succ, fit_head h2 ⟨h1, h1⟩] at h0
          cases h0
        · rintro ⟨_, _, h3⟩
          exact absurd h3 h1
  | y :: pre, n, la, [], _, hn, _ => by
    rw [List.length_cons] at hn
    constructor
    · intro h
      have := h 0 (by rw [List.length_cons]; omega)
      exact this
    · intro h
      rw [pcG] at h
      simp at h
  | y :: pre, n, la, x :: a, hp, hn, hla => by
    rw [List.length_cons] at hn hla
    have ih := pc_star pre (n + 1) la a (fun z hz => hp z (by simp [hz])) (by omega) (by omega)
    have hl : (y :: pre).length = pre.length + 1 := rfl
    rw [hl]
    simp only [List.cons_append]
    rw [pcG]
    by_cases h2 : x = star2
    · rw [if_pos h2]
      refine ⟨fun _ => rfl, fun _ j _ => ?_⟩
      rw [fitG, if_pos h2]
    · rw [if_neg h2, if_neg (hp y (by simp))]
      by_cases h1 : ¬ x = star1 ∧ ¬ x = y
      · rw [if_pos h1]
        constructor
        · intro h
          have h0 := h 0 (by omega)
          rw [fit_head h2 h1] at h0
          cases h0
        · intro h; cases h
      · rw [if_neg h1, ← ih]
        simp only [fit_tail h2 h1]
        rw [show n + (pre.length + 1) = n + 1 + pre.length by omega]
theorem lens_len {ws : Wd} (h5 : ws.length ≤ 5) : ∀ v ∈ lens ws, v.length ≤ 5 := by
  intro v hv
  rw [lens] at hv
  split at hv
  · obtain ⟨j, hj, rfl⟩ := List.mem_map.1 hv
    have := List.mem_range.1 hj
    simp only [List.length_append, List.length_dropLast, List.length_replicate]
    omega
  · simp only [List.mem_singleton] at hv
    rw [hv]; exact h5
theorem pc_eq {a b : Wd} (ha : goodW a) (hb : goodW b) (ha5 : a.length ≤ 5) (hb5 : b.length ≤ 5) : pcI a b = pcG 0 a.length a b := by
  have h0 : pcI a b = (lens b).all (fun v => fitG v a) := by
    rw [pcI, Bool.eq_iff_iff, List.all_eq_true, List.all_eq_true]
    constructor
    · intro h v hv; rw [← fit_eq ha (lens_len hb5 v hv)]; exact h v hv
    · intro h v hv; rw [fit_eq ha (lens_len hb5 v hv)]; exact h v hv
  rw [h0, lens]
  by_cases hl : b.getLast? = some star2
  · rw [if_pos hl]
    have hne : b ≠ [] := by rintro rfl; simp at hl
    have e : b = b.dropLast ++ [star2] := by
      rw [List.getLast?_eq_some_getLast hne, Option.some.injEq] at hl
      conv => lhs; rw [← List.dropLast_concat_getLast hne, hl]
    have hpos := List.length_pos_iff.2 hne
    have hps := pc_star b.dropLast 0 a.length a (goodW_last hb) (by rw [List.length_dropLast]; omega) (by omega)
    rw [← e] at hps
    rw [Bool.eq_iff_iff, ← hps, List.all_eq_true]
    simp only [Nat.zero_add, List.length_dropLast]
    constructor
    · intro h j hj
      exact h _ (List.mem_map.2 ⟨j, List.mem_range.2 hj, rfl⟩)
    · intro h v hv
      obtain ⟨j, hj, rfl⟩ := List.mem_map.1 hv
      exact h j (List.mem_range.1 hj)
  · rw [if_neg hl, List.all_cons, List.all_nil, Bool.and_true, pc_plain]
    intro y hy
    by_cases hne : b = []
    · subst hne; simp at hy
    · rw [← List.dropLast_concat_getLast hne] at hy
      rcases List.mem_append.1 hy with hy | hy
      · exact goodW_last hb y hy
      · simp only [List.mem_singleton] at hy
        rintro rfl
        exact hl (by rw [List.getLast?_eq_some_getLast hne, ← hy])
def pcB (wide narrow : ByteArray) : Bool := patOk wide && (patOk narrow && pcI (pws wide) (pws narrow))
def pcS (wide narrow : ByteArray) : Bool := patOk wide && (patOk narrow && pcG 0 (pws wide).length (pws wide) (pws narrow))
theorem pc_same (a b : ByteArray) : pcB a b = pcS a b := by
  rw [pcB, pcS]
  cases h1 : patOk a
  · rfl
  · cases h2 : patOk b
    · rfl
    · rw [pc_eq (patOk_good h1) (patOk_good h2) (patOk_len h1) (patOk_len h2)]
set_option maxHeartbeats 1000000 in
theorem pc1_any {s : ByteArray} {A : Option Addr} {v : Wd} {c bx : Nat} {w : World} (hs : s.size ≤ 2097152) (h5 : (pws s).length ≤ 5) (hU : sgR w A v) (b0 : w.cell? ⟨bx, 0, none⟩ = some (.string s)) :
    Calls Tryd.prog 89 #[.slice A v.length c, .pointer (some ⟨bx, 0, none⟩)] w fun e w' => e = .returned (.bool (!covBy (pws s) v)) ∧ Below w.heap.size w w' := by
  obtain ⟨q, hq⟩ : ∃ q, covBy (pws s) v = q := ⟨_, rfl⟩
  have HC := Lib.hid (coveredBy_any (c := c) hs h5 hU)
  rw [hq] at HC ⊢
  clear hq
  go_enter Tryd.func89, Tryd.ntmps89
  go_wp2_with fail
  refine HC.out.mono ?_
  rintro e w1 ⟨rfl, hB⟩
  go_wp2
  go_ret
  exact ⟨rfl, hB⟩
theorem enters_pc1 : ∀ args w, (callFunc 89 args).run Tryd.prog w = .ok (.enter 89 args) w := enters_of Tryd.func89 (by kernel_rfl) rfl
theorem all_ls (l : List Wd) (p : Wd → Bool) : (List.range l.length).any (fun k => !p (lsAt l k)) = !l.all p := by
  have h := any_range l [] (fun v => !p v)
  rw [show (fun k => !p (lsAt l k)) = fun k => !p (l.getD k []) from rfl, h]
  rw [Bool.eq_iff_iff]
  simp
set_option maxHeartbeats 2000000 in
theorem implPatternCovers {a b : ByteArray} {w : World} (ha : a.size ≤ 2097152) (hb : b.size ≤ 2097152) :
    Calls Tryd.prog 73 #[.string a, .string b] w fun e w' => e = .returned (.bool (pcB a b)) ∧ Below w.heap.size w w' := by
  obtain ⟨W, hW⟩ : ∃ W, W = w.alloc (.cells #[.string a] 9) := ⟨_, rfl⟩
  have hB : Below w.heap.size w W := by rw [hW]; (repeat (first | exact Below.refl _ _ | refine ext_alloc ?_ _ | refine Below.setCell ?_ (by simp) _))
  have b0 : W.cell? ⟨w.heap.size, 0, none⟩ = some (.string a) := by rw [hW]; exact box_cell w _ _ 0 _ rfl
  have HW := Lib.hid hW
  clear hW
  cases h1 : patOk a
  · have HR : Hid (pcB a b = false) := Lib.hid (by rw [pcB, h1]; rfl)
    go_enter Tryd.func73, Tryd.ntmps73
    go_wp2_with fail
    rw [← HW.out]
    refine (implPatternValid_w h1 ha _).mono ?_
    rintro e w1 ⟨rfl, hbb⟩
    replace hB := ext_trans hB hbb
    go_wp2
    go_ret
    exact ⟨by rw [HR.out]; rfl, hB⟩
  · cases h2 : patOk b
    · have HR : Hid (pcB a b = false) := Lib.hid (by rw [pcB, h1, h2]; rfl)
      go_enter Tryd.func73, Tryd.ntmps73
      go_wp2_with fail
      rw [← HW.out]
      refine (implPatternValid_w h1 ha _).mono ?_
      rintro e w1 ⟨rfl, hbb⟩
      replace hB := ext_trans hB hbb
      clear hbb
      go_wp2_with fail
      refine (implPatternValid_w h2 hb _).mono ?_
      rintro e w2 ⟨rfl, hbb⟩
      replace hB := ext_trans hB hbb
      go_wp2
      go_ret
      exact ⟨by rw [HR.out]; rfl, hB⟩
    · obtain ⟨q, hq⟩ : ∃ q, pcI (pws a) (pws b) = q := ⟨_, rfl⟩
      have HR : Hid (pcB a b = q) := Lib.hid (by rw [pcB, h1, h2, hq]; rfl)
      have hq2 : (List.range (lens (pws b)).length).any (fun k => !covBy (pws a) (lsAt (lens (pws b)) k)) = !q := by rw [← hq]; exact all_ls _ _
      have HQ := Lib.hid hq2
      have h5 := patOk_len h1
      have h6 := patOk_len h2
      clear hq hq2
      go_enter Tryd.func73, Tryd.ntmps73
      go_wp2_with fail
      rw [← HW.out]
      refine (implPatternValid_w h1 ha _).mono ?_
      rintro e w1 ⟨rfl, hbb⟩
      replace hB := ext_trans hB hbb
      replace b0 := below_cell hbb b0
      clear hbb
      go_wp2_with fail
      refine (implPatternValid_w h2 hb _).mono ?_
      rintro e w2 ⟨rfl, hbb⟩
      replace hB := ext_trans hB hbb
      replace b0 := below_cell hbb b0
      clear hbb
      go_wp2_with fail
      refine (lengths_any hb h6).mono ?_
      rintro e w3 ⟨A1, c1, rfl, hL, hbb⟩
      replace hB := ext_trans hB hbb
      replace b0 := below_cell hbb b0
      have HC := Lib.hid (containsFunc_ls (c := c1) (lb := #[.pointer (some ⟨w.heap.size, 0, none⟩)]) enters_pc1 hL (fun k _ X A2 c2 hX hv => pc1_any ha h5 hv (below_cell hX b0)) HQ.out)
      clear hbb hL
      go_wp2_with fail
      refine HC.out.mono ?_
      rintro e w4 ⟨rfl, hbb⟩
      replace hB := ext_trans hB hbb
      go_wp2
      go_ret
      exact ⟨by rw [HR.out]; cases q <;> rfl, hB⟩
theorem pcg_end {a b : Wd} {n la : Nat} (h : a.length ≤ b.length) : pcG n la (a.drop a.length) (b.drop a.length) = ((a.length : Int) == b.length) := by
  rw [List.drop_length, pcG, Bool.eq_iff_iff, List.isEmpty_iff, List.drop_eq_nil_iff, beq_iff_eq]
  omega
theorem pcg_short {a b : Wd} {n la k : Nat} (hk : k < a.length) (h : b.length ≤ k) : pcG n la (a.drop k) (b.drop k) = false := by
  rw [List.drop_eq_nil_of_le h, drop_at hk]
  rfl
theorem pcg_two {a b : Wd} {n la k : Nat} (hk : k < a.length) (hk' : k < b.length) (h : sg0 a k = star2) : pcG n la (a.drop k) (b.drop k) = true := by
  rw [drop_at hk, drop_at hk', pcG, if_pos h]
theorem pcg_two' {a b : Wd} {n la k : Nat} (hk : k < a.length) (hk' : k < b.length) (h : ¬ sg0 a k = star2) (h2 : sg0 b k = star2) : pcG n la (a.drop k) (b.drop k) = decide (n + 1 = 5 ∧ la = 5 ∧ sg0 a k = star1) := by
  rw [drop_at hk, drop_at hk', pcG, if_neg h, if_pos h2]
theorem pcg_bad {a b : Wd} {n la k : Nat} (hk : k < a.length) (hk' : k < b.length) (h : ¬ sg0 a k = star2) (h2 : ¬ sg0 b k = star2) (h3 : ¬ sg0 a k = star1) (h4 : ¬ sg0 a k = sg0 b k) : pcG n la (a.drop k) (b.drop k) = false := by
  rw [drop_at hk, drop_at hk', pcG, if_neg h, if_neg h2, if_pos ⟨h3, h4⟩]
theorem pcg_go {a b : Wd} {n la k : Nat} (hk : k < a.length) (hk' : k < b.length) (h : ¬ sg0 a k = star2) (h2 : ¬ sg0 b k = star2) (h3 : sg0 a k = star1 ∨ sg0 a k = sg0 b k) : pcG n la (a.drop k) (b.drop k) = pcG (n + 1) la (a.drop (k + 1)) (b.drop (k + 1)) := by
  rw [drop_at hk, drop_at hk', pcG, if_neg h, if_neg h2, if_neg (by rintro ⟨h4, h5⟩; rcases h3 with h3 | h3; exact h4 h3; exact h5 h3)]
set_option maxRecDepth 100000 in
set_option maxHeartbeats 4000000 in
theorem specPatternCovers {p s : ByteArray} {w : World} (hp : p.size ≤ 2097152) (hs : s.size ≤ 2097152) :
    Calls Tryd.prog 74 #[.string p, .string s] w fun e w' => e = .returned (.bool (pcS p s)) ∧ Below w.heap.size w w' := by
  have hl := pws_len p
  have hl' := pws_len s
  cases h1 : patOk p
  · have HR : Hid (pcS p s = false) := Lib.hid (by rw [pcS, h1]; rfl)
    go_enter Tryd.func74, Tryd.ntmps74
    go_wp2_with fail
    refine (specPatternValid_w h1 hp _).mono ?_
    rintro e w1 ⟨rfl, hB⟩
    go_wp2
    go_ret
    exact ⟨by rw [HR.out]; rfl, hB⟩
  · cases h2 : patOk s
    · have HR : Hid (pcS p s = false) := Lib.hid (by rw [pcS, h1, h2]; rfl)
      go_enter Tryd.func74, Tryd.ntmps74
      go_wp2_with fail
      refine (specPatternValid_w h1 hp _).mono ?_
      rintro e w1 ⟨rfl, hB⟩
      go_wp2_with fail
      refine (specPatternValid_w h2 hs _).mono ?_
      rintro e w2 ⟨rfl, hb⟩
      replace hB := ext_trans hB hb
      go_wp2
      go_ret
      exact ⟨by rw [HR.out]; rfl, hB⟩
    · have HR : Hid (pcS p s = pcG 0 (pws p).length (pws p) (pws s)) := Lib.hid (by rw [pcS, h1, h2]; rfl)
      go_enter Tryd.func74, Tryd.ntmps74
      go_wp2_with fail
      refine (specPatternValid_w h1 hp _).mono ?_
      rintro e w1 ⟨rfl, hB⟩
      go_wp2_with fail
      refine (specPatternValid_w h2 hs _).mono ?_
      rintro e w2 ⟨rfl, hb⟩
      replace hB := ext_trans hB hb
      clear hb
      go_wp2_with fail
      refine (l30Words_any hp).mono ?_
      rintro e w3 ⟨A, c, rfl, hown, hb⟩
      replace hB := ext_trans hB hb
      have hU0 : sgR w3 A (pws p) := sgR.own rfl (by omega) hown
      clear hb hown
      go_wp2_with fail
      refine (l30Words_any hs).mono ?_
      rintro e w4 ⟨A', c', rfl, hown, hb⟩
      replace hB := ext_trans hB hb
      have hU := hU0.below hb
      have hV : sgR w4 A' (pws s) := sgR.own rfl (by omega) hown
      have HB4 := Lib.hid hB
      obtain ⟨a, ha⟩ : ∃ a, pws p = a := ⟨_, rfl⟩
      obtain ⟨b, hb'⟩ : ∃ b, pws s = b := ⟨_, rfl⟩
      rw [ha, hb'] at HR
      rw [ha] at hU hl ⊢
      rw [hb'] at hV hl' ⊢
      clear hb hown hB hU0 ha hb'
      go_wp2
      go_loopw [7] (fun iv wr => ∃ k : Nat, (k ≤ b.length ∧ k ≤ a.length) ∧ iv = .int .i64 k ∧ Hid (pcG 0 a.length a b = pcG k a.length (a.drop k) (b.drop k)) ∧ Below w4.heap.size w4 wr) (fun iv _ => a.length - (intOf iv).toNat)
      case atStart => exact ⟨0, ⟨Nat.zero_le _, Nat.zero_le _⟩, rfl, Lib.hid (by simp), Below.refl _ _⟩
      case round =>
        obtain ⟨k, ⟨hk', hk⟩, rfl, HG, hB⟩ := hrel
        by_cases hlt : k < a.length
        · by_cases hlt' : k < b.length
          · obtain ⟨b1, o1, rfl, hc⟩ := hU.cells (by omega)
            obtain ⟨b2, o2, rfl, hc'⟩ := hV.cells (by omega)
            have c0 := below_cell hB (hc k hlt)
            have d0 := below_cell hB (hc' k hlt')
            clear hc hc'
            obtain ⟨x, hx⟩ : ∃ x, sg0 a k = x := ⟨_, rfl⟩
            obtain ⟨y, hy⟩ : ∃ x, sg0 b k = x := ⟨_, rfl⟩
            rw [hx] at c0
            rw [hy] at d0
            by_cases e2 : x = star2
            · have q2 : (x.toList == [42, 42]) = true := by rw [star2_beq]; simpa using e2
              have HH := Lib.hid (pcg_two (b := b) (n := k) (la := a.length) hlt hlt' (hx.trans e2))
              clear e2 hx hy
              go_wp2
              go_ret
              exact ⟨by rw [HR.out, HG.out, HH.out]; rfl, ext_trans HB4.out hB⟩
            · have q2 : (x.toList == [42, 42]) = false := by rw [star2_beq]; simpa using e2
              by_cases f2 : y = star2
              · have r2 : (y.toList == [42, 42]) = true := by rw [star2_beq]; simpa using f2
                obtain ⟨z, hz⟩ : ∃ z, decide (x = star1) = z := ⟨_, rfl⟩
                have q1 : (x.toList == [42]) = z := by rw [star1_beq]; exact hz
                have HH := Lib.hid (pcg_two' (n := k) (la := a.length) hlt hlt' (fun h => e2 (hx.symm.trans h)) (hy.trans f2))
                have HX := Lib.hid hx
                have HZ := Lib.hid hz
                clear e2 f2 hx hy hz
                by_cases k5 : k + 1 = 5
                · by_cases l5 : a.length = 5
                  · have HV : Hid (pcS p s = z) := Lib.hid (by rw [HR.out, HG.out, HH.out, ← HZ.out, HX.out]; simp [k5, l5])
                    have K5 := Lib.hid k5
                    have i5 : ((k : Int) + 1 == 5) = true := by simp; omega
                    have j5 : ((a.length : Int) == 5) = true := by simp; omega
                    clear k5 l5
                    go_wp2
                    go_ret
                    exact ⟨by rw [HV.out]; rfl, ext_trans HB4.out hB⟩
                  · have HV : Hid (pcS p s = false) := Lib.hid (by rw [HR.out, HG.out, HH.out]; simp [l5])
                    have i5 : ((k : Int) + 1 == 5) = true := by simp; omega
                    have j5 : ((a.length : Int) == 5) = false := by simp; omega
                    clear k5 l5
                    go_wp2
                    go_ret
                    exact ⟨by rw [HV.out]; rfl, ext_trans HB4.out hB⟩
                · have HV : Hid (pcS p s = false) := Lib.hid (by rw [HR.out, HG.out, HH.out]; simp [k5])
                  have i5 : ((k : Int) + 1 == 5) = false := by simp; omega
                  clear k5
                  go_wp2
                  go_ret
                  exact ⟨by rw [HV.out]; rfl, ext_trans HB4.out hB⟩
              · have r2 : (y.toList == [42, 42]) = false := by rw [star2_beq]; simpa using f2
                have c1 := cell_regrown c0
                have d1 := cell_regrown d0
                have ex : ¬ sg0 a k = star2 := fun h => e2 (hx.symm.trans h)
                have ey : ¬ sg0 b k = star2 := fun h => f2 (hy.symm.trans h)
                by_cases e1 : x = star1
                · have q1 : (x.toList == [42]) = true := by rw [star1_beq]; simpa using e1
                  have HH := Lib.hid (pcg_go (n := k) (la := a.length) hlt hlt' ex ey (.inl (hx.trans e1)))
                  clear e1 e2 f2 hx hy ex ey
                  go_wp2
                  refine wp_region_quiet_below (by kernel_rfl) (by kernel_rfl) ?_
                  repeat (go_big_quiet_step (fail))
                  refine wpQuiet_nil ?_
                  intro w2 hw'regrown
                  replace hB := ext_trans hB (below_of_regrown hw'regrown (Nat.le_refl _))
                  clear hw'regrown c0 d0 c1 d1
                  go_wp2
                  go_roundw
                  case rel => exact ⟨k + 1, ⟨by omega, by omega⟩, by go_num, Lib.hid (HG.out.trans HH.out), hB⟩
                  case measure => simp [intOf]; omega
                · have q1 : (x.toList == [42]) = false := by rw [star1_beq]; simpa using e1
                  by_cases e3 : x = y
                  · have q3 : (x.toList == y.toList) = true := by rw [str_beq]; simpa using e3
                    have HH := Lib.hid (pcg_go (n := k) (la := a.length) hlt hlt' ex ey (.inr (by rw [hx, hy, e3])))
                    clear e1 e2 f2 e3 hx hy ex ey
                    go_wp2
                    refine wp_region_quiet_below (by kernel_rfl) (by kernel_rfl) ?_
                    repeat (go_big_quiet_step (fail))
                    refine wpQuiet_nil ?_
                    intro w2 hw'regrown
                    replace hB := ext_trans hB (below_of_regrown hw'regrown (Nat.le_refl _))
                    clear hw'regrown c0 d0 c1 d1
                    go_wp2
                    go_roundw
                    case rel => exact ⟨k + 1, ⟨by omega, by omega⟩, by go_num, Lib.hid (HG.out.trans HH.out), hB⟩
                    case measure => simp [intOf]; omega
                  · have q3 : (x.toList == y.toList) = false := by rw [str_beq]; simpa using e3
                    have HH := Lib.hid (pcg_bad (n := k) (la := a.length) hlt hlt' ex ey (fun h => e1 (hx.symm.trans h)) (fun h => e3 (by rw [← hx, ← hy, h])))
                    clear e1 e2 f2 e3 hx hy ex ey
                    go_wp2
                    refine wp_region_quiet_below (by kernel_rfl) (by kernel_rfl) ?_
                    repeat (go_big_quiet_step (fail))
                    refine wpQuiet_nil ?_
                    intro w2 hw'regrown
                    replace hB := ext_trans hB (below_of_regrown hw'regrown (Nat.le_refl _))
                    clear hw'regrown c0 d0 c1 d1
                    go_wp2
                    go_ret
                    exact ⟨by rw [HR.out, HG.out, HH.out]; rfl, ext_trans HB4.out hB⟩
          · have HH := Lib.hid (pcg_short (n := k) (la := a.length) hlt (by omega : b.length ≤ k))
            go_wp2
            go_ret
            exact ⟨by rw [HR.out, HG.out, HH.out]; rfl, ext_trans HB4.out hB⟩
        · obtain rfl : k = a.length := by omega
          have HH := Lib.hid (pcg_end (n := a.length) (la := a.length) hk')
          go_wp2
          go_ret
          exact ⟨by rw [HR.out, HG.out, HH.out]; rfl, ext_trans HB4.out hB⟩
end Go.Proofs.YtpmelhkhmichcaaDoor
