/- Paths that fit patterns (plain); lists of lists of words. -/
import Derived.Test.YtpmelhkhmichcaaDoorPaB
import Derived.Test.YtpmelhkhmichcaaDoorNsg
import Derived.Test.YtpmelhkhmichcaaDoorSgI
import Derived.Test.YtpmelhkhmichcaaDoorPaE
namespace Go.Proofs.YtpmelhkhmichcaaDoor
set_option linter.unusedSimpArgs false
set_option linter.unusedVariables false
open Go.RowKit

def pathOk (s : ByteArray) : Bool := decide (∀ i, i < (pws s).length → nmOk (sg0 (pws s) i) = true) && decide ((pws s).length ≤ 5)
abbrev Wd := List ByteArray
/-- By the reference, from here on. -/
def fitG : Wd → Wd → Bool
  | a, [] => a.isEmpty
  | [], _ :: _ => false
  | x :: a, y :: b => if y = star2 then true else if ¬ y = star1 ∧ ¬ y = x then false else fitG a b
/-- The words for each number of words. -/
def lens (ws : Wd) : List Wd := if ws.getLast? = some star2 then (List.range (5 - (ws.length - 1))).map (fun j => ws.dropLast ++ List.replicate (j + 1) star1) else [ws]
def covW : Wd → Wd → Bool
  | [], [] => true
  | x :: a, y :: b => decide (x = star1 ∨ x = y) && covW a b
  | _, _ => false
def covBy (p : Wd) (ws : Wd) : Bool := (lens p).any (fun v => covW v ws)
theorem star_ne : star1 ≠ star2 := by
  intro h
  have := congrArg ByteArray.size h
  exact absurd this (by decide)
/-- Valid words of a pattern: two stars stand last. -/
def goodW : Wd → Prop
  | [] => True
  | [_] => True
  | y :: z :: b => y ≠ star2 ∧ goodW (z :: b)
theorem covW_len : ∀ {a b : Wd}, covW a b = true → a.length = b.length
  | [], [], _ => rfl
  | x :: a, y :: b, h => by
    simp only [covW, Bool.and_eq_true] at h
    simp [covW_len h.2]
  | [], _ :: _, h => by simp [covW] at h
  | _ :: _, [], h => by simp [covW] at h
theorem covW_stars : ∀ (b : Wd), covW (List.replicate b.length star1) b = true
  | [] => rfl
  | y :: b => by
    rw [List.length_cons, List.replicate_succ, covW, covW_stars b]
    simp
theorem fit_plain : ∀ (b a : Wd), (∀ y ∈ b, y ≠ star2) → fitG a b = covW b a
  | [], a, _ => by cases a <;> rfl
  | y :: b, [], _ => rfl
  | y :: b, x :: a, h => by
    rw [fitG, if_neg (h y (by simp)), covW, fit_plain b a (fun z hz => h z (by simp [hz]))]
    by_cases h2 : y = star1 ∨ y = x
    · rw [if_neg (by rintro ⟨h3, h4⟩; rcases h2 with h2 | h2; exact h3 h2; exact h4 h2), decide_eq_true h2, Bool.true_and]
    · rw [if_pos ⟨fun h3 => h2 (.inl h3), fun h3 => h2 (.inr h3)⟩, decide_eq_false h2, Bool.false_and]
theorem fit_star : ∀ (b a : Wd), (∀ y ∈ b, y ≠ star2) → (fitG a (b ++ [star2]) = true ↔ ∃ j, covW (b ++ List.replicate (j + 1) star1) a = true)
  | [], [], _ => by
    simp only [List.nil_append]
    rw [fitG]
    simp [List.replicate_succ, covW]
  | [], x :: a, _ => by
    simp only [List.nil_append]
    rw [fitG, if_pos rfl]
    refine ⟨fun _ => ⟨a.length, ?_⟩, fun _ => rfl⟩
    exact covW_stars (x :: a)
  | y :: b, [], _ => by
    simp only [List.cons_append]
    rw [fitG]
    simp [covW]
  | y :: b, x :: a, h => by
    simp only [List.cons_append]
    have ih := fit_star b a (fun z hz => h z (by simp [hz]))
    rw [fitG, if_neg (h y (by simp))]
    by_cases h2 : y = star1 ∨ y = x
    · rw [if_neg (by rintro ⟨h3, h4⟩; rcases h2 with h2 | h2; exact h3 h2; exact h4 h2), ih]
      simp only [covW, decide_eq_true h2, Bool.true_and]
    · rw [if_pos ⟨fun h3 => h2 (.inl h3), fun h3 => h2 (.inr h3)⟩]
      simp only [covW, decide_eq_false h2, Bool.false_and, Bool.false_eq_true, exists_false]
theorem goodW_last : ∀ {p : Wd}, goodW p → ∀ y ∈ p.dropLast, y ≠ star2
  | [], _, y, h => by simp at h
  | [_], _, y, h => by simp at h
  | y :: z :: b, h, x, hx => by
    rw [List.dropLast_cons_cons] at hx
    rcases List.mem_cons.1 hx with rfl | hx
    · exact h.1
    · exact goodW_last h.2 x hx
theorem fit_eq {p a : Wd} (hp : goodW p) (ha : a.length ≤ 5) : covBy p a = fitG a p := by
  rw [Bool.eq_iff_iff, covBy, lens]
  by_cases hl : p.getLast? = some star2
  · rw [if_pos hl]
    have hne : p ≠ [] := by rintro rfl; simp at hl
    have e : p = p.dropLast ++ [star2] := by
      rw [List.getLast?_eq_some_getLast hne, Option.some.injEq] at hl
      conv => lhs; rw [← List.dropLast_concat_getLast hne, hl]
    have hb := goodW_last hp
    have hf := fit_star p.dropLast a hb
    rw [← e] at hf
    rw [hf, List.any_eq_true]
    constructor
    · rintro ⟨v, hv, hc⟩
      obtain ⟨j, _, rfl⟩ := List.mem_map.1 hv
      exact ⟨j, hc⟩
    · rintro ⟨j, hc⟩
      refine ⟨_, List.mem_map.2 ⟨j, List.mem_range.2 ?_, rfl⟩, hc⟩
      have := covW_len hc
      simp only [List.length_append, List.length_dropLast, List.length_replicate] at this
      omega
  · rw [if_neg hl, List.any_cons, List.any_nil, Bool.or_false, fit_plain p a]
    intro y hy
    by_cases hne : p = []
    · subst hne; simp at hy
    · rw [← List.dropLast_concat_getLast hne] at hy
      rcases List.mem_append.1 hy with hy | hy
      · exact goodW_last hp y hy
      · simp only [List.mem_singleton] at hy
        rintro rfl
        exact hl (by rw [List.getLast?_eq_some_getLast hne, ← hy])
def lsN : Nst Wd ByteArray := { cells := fun _ v => [v], inner := fun l => l, enc := sgEnc, isz := 1, iT := 9 }
theorem lsN_good : lsN.Good 63 where
  one := fun r v hv u hu => by simp [lsN] at hu; subst hu; exact hv
  encl := fun _ => rfl
  ipos := by decide
  ne := by decide
/-- The slice with the address A reads as a list of lists. -/
def lsR (w : World) (A : Option Addr) (l : List Wd) : Prop := lsN.rdl 1 w A l
def lsAt (l : List Wd) (k : Nat) : Wd := l.getD k []
theorem lsAt_eq {l : List Wd} {k : Nat} (hk : k < l.length) : lsAt l k = l[k] := by simp [lsAt, hk]
theorem lsR.below {w w' : World} {A : Option Addr} {l : List Wd} (h : lsR w A l) (hb : Below w.heap.size w w') : lsR w' A l := Nst.rdl.below h hb
theorem lsR.cells {w : World} {A : Option Addr} {l : List Wd} (h : lsR w A l) (hn : 0 < l.length) : ∃ b off, A = some ⟨b, off, none⟩ ∧ ∀ k, k < l.length → ∃ A' c', sgR w A' (lsAt l k) ∧ w.cell? ⟨b, off + k, none⟩ = some (.slice A' (lsAt l k).length c') := by
  obtain ⟨b, off, e, hc⟩ := h.2 hn
  refine ⟨b, off, e, fun k hk => ?_⟩
  obtain ⟨cs, _, ⟨A', c', rfl, h2, _⟩, hv⟩ := hc k hk
  rw [lsAt_eq hk]
  exact ⟨A', c', h2, by have h3 : w.cell? ⟨b, off + k * 1 + 0, none⟩ = some (.slice A' l[k].length c') := hv 0 _ rfl; simpa using h3⟩
/-- What is asked of a predicate over lists of words. -/
def PrLs (g : Nat) (lb : Array Value) (p : Nat → Bool) (w : World) (l : List Wd) : Prop :=
  ∀ k, k < l.length → ∀ (W : World) (A' : Option Addr) (c' : Nat), Below w.heap.size w W → sgR W A' (lsAt l k) →
    Calls Tryd.prog g (#[.slice A' (lsAt l k).length c'] ++ lb) W fun e w' => e = .returned (.bool (p k)) ∧ Below W.heap.size W w'
set_option maxRecDepth 100000 in
set_option maxHeartbeats 4000000 in
theorem indexFunc_ls {g : Nat} {lb : Array Value} {p : Nat → Bool} {A : Option Addr} {l : List Wd} {c : Nat} {w : World} (eg : ∀ args w, (callFunc g args).run Tryd.prog w = .ok (.enter g args) w)
    (hU : lsR w A l) (hp : PrLs g lb p w l) :
    Calls Tryd.prog 99 #[.slice A l.length c, .func (.func g) #[] lb] w fun e w' => ∃ i : Int, e = .returned (.int .i64 i) ∧ FirstP p l.length i ∧ Below w.heap.size w w' := by
  have hlen := Nst.rdl.len hU
  have HP := Lib.hid hp
  clear hp
  go_enter Tryd.func99, Tryd.ntmps99
  go_wp2
  go_loopw [5, 8] (fun _ iv wr => ∃ k : Nat, k ≤ l.length ∧ iv = .int .i64 k ∧ Hid (∀ j, j < k → p j = false) ∧ Below w.heap.size w wr) (fun _ iv _ => l.length - (intOf iv).toNat)
  case atStart => exact ⟨0, Nat.zero_le _, rfl, Lib.hid (fun j h => by omega), Below.refl _ _⟩
  case round =>
    obtain ⟨k, hk, rfl, HG, hB⟩ := hrel
    by_cases hlt : k < l.length
    · obtain ⟨b, off, rfl, hc⟩ := hU.cells (by omega)
      obtain ⟨A1, c1, hfd, c0⟩ := hc k hlt
      replace c0 := below_cell hB c0
      clear hc
      have HCALL := Lib.hid (HP.out k hlt _ A1 c1 hB (hfd.below hB))
      obtain ⟨y, hy⟩ : ∃ y, p k = y := ⟨_, rfl⟩
      rw [hy] at HCALL
      have HY := Lib.hid hy
      clear hfd hy
      cases y
      · go_wp2_with fail
        refine HCALL.out.mono ?_
        rintro e w1 ⟨rfl, hb⟩
        replace hB := ext_trans hB hb
        clear hb c0
        go_wp2
        go_roundw
        case rel => exact ⟨k + 1, by omega, by go_num, Lib.hid (all_succ HG.out HY.out), hB⟩
        case measure => simp [intOf]; omega
      · go_wp2_with fail
        refine HCALL.out.mono ?_
        rintro e w1 ⟨rfl, hb⟩
        replace hB := ext_trans hB hb
        clear hb c0
        go_wp2
        go_ret
        exact ⟨k, rfl, .inr ⟨k, rfl, hlt, HY.out, HG.out⟩, hB⟩
    · obtain rfl : k = l.length := by omega
      go_wp2
      go_ret
      exact ⟨-1, rfl, .inl ⟨rfl, HG.out⟩, hB⟩
set_option maxHeartbeats 1000000 in
theorem containsFunc_ls {g : Nat} {lb : Array Value} {p : Nat → Bool} {A : Option Addr} {l : List Wd} {c : Nat} {w : World} {q : Bool} (eg : ∀ args w, (callFunc g args).run Tryd.prog w = .ok (.enter g args) w)
    (hU : lsR w A l) (hp : PrLs g lb p w l) (hq : (List.range l.length).any p = q) :
    Calls Tryd.prog 84 #[.slice A l.length c, .func (.func g) #[] lb] w fun e w' => e = .returned (.bool q) ∧ Below w.heap.size w w' := by
  have HI := Lib.hid (indexFunc_ls (c := c) eg hU hp)
  have HQ := Lib.hid hq
  clear hp hq
  go_enter Tryd.func84, Tryd.ntmps84
  go_wp2_with fail
  refine HI.out.mono ?_
  rintro e w1 ⟨i, rfl, hf, hB⟩
  have HE : Hid (decide (i ≥ 0) = q) := Lib.hid (by rw [hf.any, HQ.out])
  have HE2 : Hid (decide (0 ≤ i) = q) := Lib.hid HE.out
  clear hf
  go_wp2
  go_ret
  first | exact ⟨by rw [← HE.out]; rfl, hB⟩ | exact ⟨by rw [← HE2.out]; rfl, hB⟩
theorem covW_iff : ∀ {a b : Wd}, covW a b = true ↔ a.length = b.length ∧ ∀ k, k < a.length → (sg0 a k = star1 ∨ sg0 a k = sg0 b k)
  | [], [] => by simp [covW]
  | [], _ :: _ => by simp [covW]
  | _ :: _, [] => by simp [covW]
  | x :: a, y :: b => by
    rw [covW, Bool.and_eq_true, decide_eq_true_eq, covW_iff, List.length_cons, List.length_cons]
    constructor
    · rintro ⟨h1, h2, h3⟩
      refine ⟨by omega, fun k hk => ?_⟩
      cases k with
      | zero => exact h1
      | succ k => exact h3 k (by omega)
    · rintro ⟨h1, h2⟩
      exact ⟨h2 0 (by omega), by omega, fun k hk => h2 (k + 1) (by omega)⟩
theorem covW_no {a b : Wd} (h : a.length ≠ b.length) : covW a b = false := by
  cases hc : covW a b with
  | false => rfl
  | true => exact absurd (covW_len hc) h
theorem covW_bad {a b : Wd} {k : Nat} (hk : k < a.length) (h1 : ¬ sg0 a k = star1) (h2 : ¬ sg0 a k = sg0 b k) : covW a b = false := by
  cases hc : covW a b with
  | false => rfl
  | true => rcases (covW_iff.1 hc).2 k hk with h | h; exact absurd h h1; exact absurd h h2
set_option maxRecDepth 100000 in
set_option maxHeartbeats 4000000 in
theorem covers_any {A A' : Option Addr} {a b : Wd} {c c' : Nat} {w : World} (hU : sgR w A a) (hV : sgR w A' b) :
    Calls Tryd.prog 87 #[.slice A a.length c, .slice A' b.length c'] w fun e w' => e = .returned (.bool (covW a b)) ∧ Below w.heap.size w w' := by
  have hl := hU.len
  have hl' := hV.len
  by_cases hne : a.length = b.length
  · have e0 : ((a.length : Int) != b.length) = false := by simp [hne]
    have HNE := Lib.hid hne
    clear hne
    go_enter Tryd.func87, Tryd.ntmps87
    go_wp2
    go_loopw [5, 6, 14] (fun _ _ iv wr => ∃ k : Nat, k ≤ a.length ∧ iv = .int .i64 k ∧ Hid (∀ j, j < k → (sg0 a j = star1 ∨ sg0 a j = sg0 b j)) ∧ Below w.heap.size w wr) (fun _ _ iv _ => a.length - (intOf iv).toNat)
    case atStart => exact ⟨0, Nat.zero_le _, rfl, Lib.hid (fun j h => by omega), Below.refl _ _⟩
    case round =>
      obtain ⟨k, hk, rfl, HG, hB⟩ := hrel
      by_cases hlt : k < a.length
      · have hlt' : k < b.length := by rw [← HNE.out]; exact hlt
        obtain ⟨b1, o1, rfl, hc⟩ := hU.cells (by omega)
        obtain ⟨b2, o2, rfl, hc'⟩ := hV.cells (by omega)
        have c0 := below_cell hB (hc k hlt)
        have d0 := below_cell hB (hc' k hlt')
        clear hc hc'
        obtain ⟨x, hx⟩ : ∃ x, sg0 a k = x := ⟨_, rfl⟩
        obtain ⟨y, hy⟩ : ∃ x, sg0 b k = x := ⟨_, rfl⟩
        rw [hx] at c0
        rw [hy] at d0
        by_cases h1 : x = star1
        · have q1 : (x.toList == [42]) = true := by rw [star1_beq]; simpa using h1
          have HH := Lib.hid (show sg0 a k = star1 ∨ sg0 a k = sg0 b k from .inl (hx.trans h1))
          clear h1 hx hy
          go_wp2
          go_roundw
          case rel => exact ⟨k + 1, by omega, by go_num, Lib.hid (all_succ HG.out HH.out), hB⟩
          case measure => simp [intOf]; omega
        · have q1 : (x.toList == [42]) = false := by rw [star1_beq]; simpa using h1
          by_cases h2 : x = y
          · have q2 : (x.toList == y.toList) = true := by rw [str_beq]; simpa using h2
            have HH := Lib.hid (show sg0 a k = star1 ∨ sg0 a k = sg0 b k from .inr (by rw [hx, hy, h2]))
            clear h1 h2 hx hy
            go_wp2
            go_roundw
            case rel => exact ⟨k + 1, by omega, by go_num, Lib.hid (all_succ HG.out HH.out), hB⟩
            case measure => simp [intOf]; omega
          · have q2 : (x.toList == y.toList) = false := by rw [str_beq]; simpa using h2
            have HH := Lib.hid (covW_bad (b := b) hlt (by rw [hx]; exact h1) (by rw [hx, hy]; exact h2))
            clear h1 h2 hx hy
            go_wp2
            go_ret
            exact ⟨by rw [HH.out]; rfl, hB⟩
      · obtain rfl : k = a.length := by omega
        have HH := Lib.hid (covW_iff.2 ⟨HNE.out, HG.out⟩)
        go_wp2
        go_ret
        exact ⟨by rw [HH.out]; rfl, hB⟩
  · have e0 : ((a.length : Int) != b.length) = true := by simp; omega
    have HH := Lib.hid (covW_no hne)
    clear hne
    go_enter Tryd.func87, Tryd.ntmps87
    go_wp2
    go_ret
    exact ⟨by rw [HH.out]; rfl, Below.refl _ _⟩
end Go.Proofs.YtpmelhkhmichcaaDoor
