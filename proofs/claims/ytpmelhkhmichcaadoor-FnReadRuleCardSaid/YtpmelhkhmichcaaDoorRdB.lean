/- Numbers read: by the library, by the reference. Rules of texts: plain. -/
import Derived.Test.YtpmelhkhmichcaaDoorRdL
import Derived.Test.YtpmelhkhmichcaaDoorRwA
import Derived.Test.YtpmelhkhmichcaaDoorRtA
import Derived.Lib.AtoiErrMem
namespace Go.Proofs.YtpmelhkhmichcaaDoor
set_option linter.unusedSimpArgs false
set_option linter.unusedVariables false
open Go.RowKit

open Go.RowKit Go.Shelf

/-- A number of 1..15 that a text is, is read. -/
def Rd15 (s : ByteArray) (v : Int) : Prop := ∀ a : Int, 1 ≤ a → a ≤ 15 → s = l1N a → v = a
theorem rd15_of {s : ByteArray} {v : Int} (h : ∀ n : Fin 16, 1 ≤ n.1 → s = l1N (n.1 : Int) → v = n.1) : Rd15 s v := by
  intro a h0 h1 e
  obtain ⟨n, rfl⟩ := Int.eq_ofNat_of_zero_le (show 0 ≤ a by omega)
  exact h ⟨n, by omega⟩ (by show 1 ≤ n; omega) e
theorem atoi_l1 : ∀ n : Fin 16, Lib.atoiAll (l1N (n.1 : Int)).data.toList = .ok (n.1 : Int) := by decide +kernel
def IfV (v : Value) : Prop := v = .nilIface ∨ ∃ te pe, v = .iface te pe
/-- The library's two errors stand. -/
def EvW (w : World) : Prop := (∃ ev, w.cell? ⟨Tryd.laysC172_ren.g 15, 0, Option.none⟩ = some ev ∧ IfV ev) ∧ ∃ ev, w.cell? ⟨Tryd.laysC172_ren.g 16, 0, Option.none⟩ = some ev ∧ IfV ev
theorem EvW.below {w w' : World} (h : EvW w) (hb : Below w.heap.size w w') : EvW w' :=
  let ⟨⟨e1, h1, g1⟩, e2, h2, g2⟩ := h
  ⟨⟨e1, below_cell hb h1, g1⟩, e2, below_cell hb h2, g2⟩
theorem atoi_any {s : ByteArray} {w : World} (hs : s.size ≤ 2097152) (hE : EvW w) :
    Calls Tryd.prog 52 #[.string s] w fun e w' => ∃ (v : Int) (x : Value), e = .returned (.tuple #[.int .i64 v, x]) ∧ Rd15 s v ∧ Below w.heap.size w w' := by
  have hk : ∀ n : Fin 16, s = l1N (n.1 : Int) → Lib.atoiAll s.data.toList = .ok (n.1 : Int) := fun n e => by rw [e]; exact atoi_l1 n
  cases h : Lib.atoiAll s.data.toList with
  | ok v =>
    refine Calls.mono (show Calls Tryd.prog 52 #[.string s] w _ from Any.strconv_Atoi_ok Tryd.laysC172 s (by omega) v h w) ?_
    rintro e w' ⟨rfl, hw⟩
    refine ⟨v, _, rfl, rd15_of (fun n _ e => ?_), ?_⟩
    · have := hk n e
      rw [h] at this
      cases this; rfl
    · rcases hw with rfl | ⟨t, rfl⟩
      · exact Below.refl _ _
      · exact Lib.bytesWorld_below _ _ _
  | «syntax» =>
    obtain ⟨⟨ev, h1, g1⟩, _⟩ := hE
    refine Calls.mono (show Calls Tryd.prog 52 #[.string s] w _ from Any.strconv_Atoi_syntax Tryd.laysC172 s (by omega) h ev w h1 g1) ?_
    rintro e w' ⟨N, rfl, _, _, hb⟩
    refine ⟨0, _, rfl, rd15_of (fun n _ e => ?_), hb⟩
    have := hk n e
    rw [h] at this; cases this
  | range =>
    obtain ⟨_, ev, h1, g1⟩ := hE
    refine Calls.mono (show Calls Tryd.prog 52 #[.string s] w _ from Any.strconv_Atoi_range Tryd.laysC172 s (by omega) h ev w h1 g1) ?_
    rintro e w' ⟨N, rfl, _, _, hb⟩
    refine ⟨_, _, rfl, rd15_of (fun n _ e => ?_), hb⟩
    have := hk n e
    rw [h] at this; cases this
/-- The number of the first digits. -/
def numK (s : ByteArray) : Nat → Int
  | 0 => 0
  | k + 1 => 10 * numK s k + (byteAt s k - 48)
def digAt (s : ByteArray) (k : Nat) : Bool := decide (48 ≤ byteAt s k) && decide (byteAt s k ≤ 57)
theorem l1_digs : ∀ n : Fin 16, (∀ k : Fin 2, k.1 < (l1N (n.1 : Int)).size → digAt (l1N (n.1 : Int)) k.1 = true) ∧ (l1N (n.1 : Int)).size ≤ 2 ∧ 1 ≤ (l1N (n.1 : Int)).size ∧ numK (l1N (n.1 : Int)) (l1N (n.1 : Int)).size = (n.1 : Int) := by decide +kernel
theorem rd15_bad {s : ByteArray} {k : Nat} (hk : k < s.size) (h : digAt s k = false ∨ 1 < k) : Rd15 s (-1) := rd15_of (fun n _ e => by
  subst e
  obtain ⟨h1, h2, _⟩ := l1_digs n
  rcases h with h | h
  · have := h1 ⟨k, by omega⟩ hk
    rw [this] at h; cases h
  · omega)
theorem rd15_nil {s : ByteArray} (h : s.size = 0) : Rd15 s (-1) := rd15_of (fun n _ e => by
  subst e
  have := (l1_digs n).2.2.1
  omega)
theorem rd15_num (s : ByteArray) : Rd15 s (numK s s.size) := rd15_of (fun n _ e => by
  subst e
  exact (l1_digs n).2.2.2)
theorem rd15_ne {s : ByteArray} {n : Int} (hn : n = numK s s.size) (h : ¬ l1N n = s) : Rd15 s (-1) := by
  intro a h0 h1 e
  have := rd15_num s a h0 h1 e
  rw [← hn] at this
  subst this
  exact absurd e.symm h
set_option maxRecDepth 100000 in
set_option maxHeartbeats 4000000 in
theorem l5Number_any {s : ByteArray} {w : World} (hs : s.size ≤ 2097152) :
    Calls Tryd.prog 54 #[.string s] w fun e w' => ∃ v : Int, e = .returned (.int .i64 v) ∧ Rd15 s v ∧ Below w.heap.size w w' := by
  go_enter Tryd.func54, Tryd.ntmps54
  go_wp2
  go_loopw [3, 4] (fun nv iv wr => ∃ k : Nat, k ≤ s.size ∧ iv = .int .i64 k ∧ nv = .int .i64 (numK s k) ∧ (k ≤ 2 ∧ 0 ≤ numK s k ∧ numK s k ≤ 99 ∧ (k ≤ 1 → numK s k ≤ 9) ∧ (k = 0 → numK s k = 0)) ∧ Below w.heap.size w wr) (fun _ iv _ => s.size - (intOf iv).toNat)
  case atStart => exact ⟨0, Nat.zero_le _, rfl, rfl, ⟨by omega, by simp [numK], by simp [numK], by simp [numK], by simp [numK]⟩, Below.refl _ _⟩
  case round =>
    obtain ⟨k, hk, rfl, rfl, ⟨hk2, hn0, hn1, hn2, hn3⟩, hB⟩ := hrel
    by_cases hlt : k < s.size
    · have hx := byteAt_of hlt
      have eg : byteAt s k = ((s[k]'hlt).toNat : Int) := hx
      obtain ⟨y, hy⟩ : ∃ y : Nat, (s[k]'hlt).toNat = y := ⟨_, rfl⟩
      have hy2 : y < 256 := by rw [← hy]; exact (s[k]'hlt).toNat_lt
      have HNK : Hid (numK s (k + 1) = 10 * numK s k + ((y : Int) - 48)) := Lib.hid (by rw [numK, eg, hy])
      have HDG : Hid (digAt s k = (decide ((48 : Int) ≤ (y : Int)) && decide ((y : Int) ≤ 57))) := Lib.hid (by rw [digAt, eg, hy])
      obtain ⟨n, hn⟩ : ∃ n, numK s k = n := ⟨_, rfl⟩
      rw [hn] at hn0 hn1 hn2 hn3 HNK
      rw [hn]
      have HN := Lib.hid hn
      clear eg hn
      by_cases h1 : (y : Int) < 48
      · have HR := Lib.hid (rd15_bad hlt (.inl (by rw [HDG.out]; simp; omega)))
        go_wp2
        go_ret
        exact ⟨-1, rfl, HR.out, hB⟩
      · by_cases h2 : 57 < (y : Int)
        · have HR := Lib.hid (rd15_bad hlt (.inl (by rw [HDG.out]; simp; omega)))
          go_wp2
          go_ret
          exact ⟨-1, rfl, HR.out, hB⟩
        · by_cases h3 : 1 < k
          · have HR := Lib.hid (rd15_bad hlt (.inr h3))
            go_wp2
            go_ret
            exact ⟨-1, rfl, HR.out, hB⟩
          · go_wp2
            go_roundw
            case rel => exact ⟨k + 1, by omega, by go_num, by rw [HNK.out], ⟨by omega, by rw [HNK.out]; omega, by rw [HNK.out]; omega, fun h => by rw [HNK.out]; omega, fun h => by omega⟩, hB⟩
            case measure => simp [intOf]; omega
    · obtain rfl : k = s.size := by omega
      have HR0 := Lib.hid (rd15_num s)
      obtain ⟨n, hn⟩ : ∃ n, numK s s.size = n := ⟨_, rfl⟩
      rw [hn] at hn0 hn1 HR0
      rw [hn]
      have HN := Lib.hid hn.symm
      clear hn hn2 hn3
      by_cases h0 : s.toList = []
      · have HR := Lib.hid (rd15_nil (s := s) (by rw [Go.ByteArray.toList_eq] at h0; have := congrArg List.length h0; simpa using this))
        have e1 : (s.toList == []) = true := by rw [h0]; rfl
        go_wp2
        go_ret
        exact ⟨-1, rfl, HR.out, hB⟩
      · have e1 : (s.toList == []) = false := by simpa using h0
        go_wp2_with fail
        refine (l1Number_any _ hn0 (by omega)).mono ?_
        rintro e w2 ⟨rfl, hb⟩
        replace hB := ext_trans hB hb
        clear hb
        by_cases hq : l1N n = s
        · have e2 : ((l1N n).toList == s.toList) = true := by rw [str_beq]; simpa using hq
          have HQ := Lib.hid hq
          clear hq
          go_wp2
          go_ret
          exact ⟨n, rfl, HR0.out, hB⟩
        · have e2 : ((l1N n).toList == s.toList) = false := by rw [str_beq]; simpa using hq
          have HR := Lib.hid (rd15_ne HN.out hq)
          clear hq
          go_wp2
          go_ret
          exact ⟨-1, rfl, HR.out, hB⟩
theorem wdL_head (c : UInt8) : ∀ (l : List UInt8) (h : List UInt8) (t : List (List UInt8)), wdL c l = h :: t → c ∉ h ∧ (t = [] → l = h) ∧ (t ≠ [] → ∃ l', l = h ++ c :: l' ∧ wdL c l' = t)
  | [], h, t, e => by
    simp only [wdL, List.cons.injEq] at e
    obtain ⟨rfl, rfl⟩ := e
    exact ⟨by simp, fun _ => rfl, fun h => absurd rfl h⟩
  | b :: l, h, t, e => by
    rw [wdL] at e
    by_cases hb : b = c
    · rw [if_pos hb] at e
      simp only [List.cons.injEq] at e
      obtain ⟨rfl, rfl⟩ := e
      exact ⟨by simp, fun h => absurd h (wdL_ne c l), fun _ => ⟨l, by rw [hb]; rfl, rfl⟩⟩
    · rw [if_neg hb] at e
      cases hw : wdL c l with
      | nil => exact absurd hw (wdL_ne c l)
      | cons h0 t0 =>
        rw [hw] at e
        simp only [List.cons.injEq] at e
        obtain ⟨rfl, rfl⟩ := e
        obtain ⟨h1, h2, h3⟩ := wdL_head c l h0 t0 hw
        refine ⟨by simp only [List.mem_cons, not_or]; exact ⟨fun e => hb e.symm, h1⟩, fun e => by rw [h2 e], fun e => ?_⟩
        obtain ⟨l', e1, e2⟩ := h3 e
        exact ⟨l', by rw [e1]; rfl, e2⟩
theorem wdL_one {c : UInt8} : ∀ {x : List UInt8}, c ∉ x → wdL c x = [x]
  | [], _ => rfl
  | b :: x, h => by
    simp only [List.mem_cons, not_or] at h
    rw [wdL, if_neg (fun e => h.1 e.symm), wdL_one h.2]
theorem wdL_app {c : UInt8} : ∀ {x : List UInt8} (l : List UInt8), c ∉ x → wdL c (x ++ c :: l) = x :: wdL c l
  | [], l, _ => by rw [List.nil_append, wdL, if_pos rfl]
  | b :: x, l, h => by
    simp only [List.mem_cons, not_or] at h
    rw [List.cons_append, wdL, if_neg (fun e => h.1 e.symm), wdL_app l h.2]
theorem app_split {c : UInt8} : ∀ {x y l1 l2 : List UInt8}, c ∉ x → c ∉ y → x ++ c :: l1 = y ++ c :: l2 → x = y ∧ l1 = l2
  | [], [], _, _, _, _, e => by simpa using e
  | [], b :: y, _, _, _, h, e => by
    simp only [List.nil_append, List.cons_append, List.cons.injEq] at e
    simp only [List.mem_cons, not_or] at h
    exact absurd e.1 h.1
  | b :: x, [], _, _, h, _, e => by
    simp only [List.nil_append, List.cons_append, List.cons.injEq] at e
    simp only [List.mem_cons, not_or] at h
    exact absurd e.1.symm h.1
  | b :: x, d :: y, l1, l2, h, h', e => by
    simp only [List.cons_append, List.cons.injEq] at e
    simp only [List.mem_cons, not_or] at h h'
    obtain ⟨h1, h2⟩ := app_split h.2 h'.2 e.2
    exact ⟨by rw [e.1, h1], h2⟩
theorem wdL_mem {c : UInt8} : ∀ {l : List UInt8} {b : UInt8}, b ∈ l → b = c ∨ ∃ x ∈ wdL c l, b ∈ x
  | [], _, h => by simp at h
  | a :: l, b, h => by
    rw [wdL]
    by_cases ha : a = c
    · rw [if_pos ha]
      rcases List.mem_cons.1 h with rfl | h
      · exact .inl ha
      · rcases wdL_mem (c := c) h with e | ⟨x, hx, hb⟩
        · exact .inl e
        · exact .inr ⟨x, List.mem_cons_of_mem _ hx, hb⟩
    · rw [if_neg ha]
      cases hw : wdL c l with
      | nil => exact absurd hw (wdL_ne c l)
      | cons h0 t0 =>
        rcases List.mem_cons.1 h with rfl | h
        · exact .inr ⟨b :: h0, by simp, by simp⟩
        · rcases wdL_mem (c := c) h with e | ⟨x, hx, hb⟩
          · exact .inl e
          · rw [hw] at hx
            rcases List.mem_cons.1 hx with rfl | hx
            · exact .inr ⟨a :: x, by simp, List.mem_cons_of_mem _ hb⟩
            · exact .inr ⟨x, List.mem_cons_of_mem _ hx, hb⟩
abbrev Rul := ByteArray × Int × Bool
def wordOf (b : Bool) : ByteArray := if b = true then wAllow else wDeny
/-- The rule that a text is. -/
def RdI (s : ByteArray) (r : Rul) : Prop := (sws s).length = 3 ∧ r.1 = sg0 (sws s) 1 ∧ r.2.2 = decide (sg0 (sws s) 0 = wAllow) ∧ rtV r.1 r.2.1 r.2.2 = s
theorem rt_list {p : ByteArray} {v : Int} {b : Bool} (h : ruOk [(p, v, b)] = true) : (rtV p v b).data.toList = (wordOf b).data.toList ++ 32 :: (p.data.toList ++ 32 :: (l1N v).data.toList) := by
  rw [rtV, if_pos h]
  simp only [ByteArray.data_append, Array.toList_append, wordOf, wSp, List.append_assoc]
  rfl
theorem word_nosp (b : Bool) : (32 : UInt8) ∉ (wordOf b).data.toList := by cases b <;> decide
theorem sws_list {s : ByteArray} (h : (sws s).length = 3) : ∃ x p t : List UInt8, sws s = [bsOf x, bsOf p, bsOf t] ∧ s.data.toList = x ++ 32 :: (p ++ 32 :: t) ∧ 32 ∉ x ∧ 32 ∉ p ∧ 32 ∉ t := by
  unfold sws wds at h ⊢
  rw [List.length_map] at h
  match hw : wdL 32 s.data.toList, h with
  | [x, p, t], _ =>
    obtain ⟨h1, _, h2⟩ := wdL_head _ _ _ _ hw
    obtain ⟨l1, e1, w1⟩ := h2 (by simp)
    obtain ⟨h3, _, h4⟩ := wdL_head _ _ _ _ w1
    obtain ⟨l2, e2, w2⟩ := h4 (by simp)
    obtain ⟨h5, h6, _⟩ := wdL_head _ _ _ _ w2
    exact ⟨x, p, t, rfl, by rw [e1, e2, h6 rfl], h1, h3, h5⟩
theorem rt_nonempty {s : ByteArray} {p : ByteArray} {v : Int} {b : Bool} (h : (sws s).length = 3) (e : rtV p v b = s) : ruOk [(p, v, b)] = true := by
  cases hk : ruOk [(p, v, b)]
  · rw [rtV, hk, if_neg (by simp)] at e
    rw [← e] at h
    exact absurd h (by decide)
  · rfl
theorem RdI.num {s : ByteArray} {r : Rul} (h : RdI s r) : (1 ≤ r.2.1 ∧ r.2.1 ≤ 15) ∧ sg0 (sws s) 2 = l1N r.2.1 := by
  obtain ⟨h3, hp, hb, hs⟩ := h
  have hok := rt_nonempty h3 hs
  refine ⟨ok_acts hok, ?_⟩
  have hl := rt_list hok
  obtain ⟨x, p, t, e, el, hx, hpp, ht⟩ := sws_list h3
  rw [hs, el] at hl
  obtain ⟨_, e2⟩ := app_split hx (word_nosp _) hl
  rw [e] at hp
  have hp2 : r.1.data.toList = p := by rw [hp]; rfl
  rw [hp2] at e2
  have e3 := List.append_cancel_left e2
  simp only [List.cons.injEq, true_and] at e3
  rw [e]
  show bsOf t = _
  rw [e3]; exact bsOf_data _
theorem l1N_inj : ∀ n m : Fin 16, l1N (n.1 : Int) = l1N (m.1 : Int) → n = m := by decide +kernel
theorem RdI.uniq {s : ByteArray} {r r' : Rul} (h : RdI s r) (h' : RdI s r') : r = r' := by
  obtain ⟨⟨a0, a1⟩, e⟩ := h.num
  obtain ⟨⟨b0, b1⟩, e'⟩ := h'.num
  obtain ⟨_, p1, q1, _⟩ := h
  obtain ⟨_, p2, q2, _⟩ := h'
  obtain ⟨p, v, b⟩ := r
  obtain ⟨p', v', b'⟩ := r'
  simp only at *
  subst p1 p2 q1 q2
  obtain ⟨n, rfl⟩ := Int.eq_ofNat_of_zero_le (show 0 ≤ v by omega)
  obtain ⟨m, rfl⟩ := Int.eq_ofNat_of_zero_le (show 0 ≤ v' by omega)
  have := l1N_inj ⟨n, by omega⟩ ⟨m, by omega⟩ (e.symm.trans e')
  rw [show n = m from congrArg Fin.val this]
/-- What a reader answers. -/
def RrP (s : ByteArray) (r : Rul) (ok : Bool) : Prop := (ok = true ∧ RdI s r) ∨ (ok = false ∧ r = (ByteArray.empty, 0, false) ∧ ∀ r', ¬ RdI s r')
theorem RrP.uniq {s : ByteArray} {r r' : Rul} {ok ok' : Bool} (h : RrP s r ok) (h' : RrP s r' ok') : r = r' ∧ ok = ok' := by
  rcases h with ⟨rfl, h⟩ | ⟨rfl, rfl, h⟩
  · rcases h' with ⟨rfl, h'⟩ | ⟨rfl, rfl, h'⟩
    · exact ⟨h.uniq h', rfl⟩
    · exact absurd h (h' _)
  · rcases h' with ⟨rfl, h'⟩ | ⟨rfl, rfl, h'⟩
    · exact absurd h' (h _)
    · exact ⟨rfl, rfl⟩
theorem rr_short {s : ByteArray} (h : ¬ (sws s).length = 3) : RrP s (ByteArray.empty, 0, false) false := .inr ⟨rfl, rfl, fun _ h' => h h'.1⟩
theorem rr_no {s : ByteArray} {v : Int} (hv : Rd15 (sg0 (sws s) 2) v) (h : ¬ rtV (sg0 (sws s) 1) v (decide (sg0 (sws s) 0 = wAllow)) = s) : RrP s (ByteArray.empty, 0, false) false := by
  refine .inr ⟨rfl, rfl, fun r hr => h ?_⟩
  obtain ⟨⟨a0, a1⟩, e⟩ := hr.num
  have := hv _ a0 a1 e
  obtain ⟨_, p1, q1, e1⟩ := hr
  rw [← p1, ← q1, this]; exact e1
theorem rr_yes {s : ByteArray} {v : Int} (h3 : (sws s).length = 3) (h : rtV (sg0 (sws s) 1) v (decide (sg0 (sws s) 0 = wAllow)) = s) : RrP s (sg0 (sws s) 1, v, decide (sg0 (sws s) 0 = wAllow)) true := .inl ⟨rfl, h3, rfl, rfl, h⟩
/-- Patterns hold no space. -/
theorem nm_nosp {w : ByteArray} (h : nmOk w = true) : (32 : UInt8) ∉ w.data.toList := by
  intro hm
  obtain ⟨k, hk, e⟩ := List.getElem_of_mem hm
  simp only [nmOk, Bool.and_eq_true, decide_eq_true_eq] at h
  have h1 := h.1 k hk
  rw [nmGood, inB_true, byteAt_of hk] at h1
  have : (w[k]'hk).toNat = 32 := by
    show (w.data[k]).toNat = 32
    have e2 : w.data[k] = 32 := by simpa using e
    rw [e2]; rfl
  omega
theorem pat_nosp {p : ByteArray} (h : patOk p = true) : (32 : UInt8) ∉ p.data.toList := by
  intro hm
  simp only [patOk, Bool.and_eq_true, decide_eq_true_eq] at h
  rcases wdL_mem (c := 47) hm with e | ⟨x, hx, hb⟩
  · exact absurd e (by decide)
  · obtain ⟨k, hk, e⟩ := List.getElem_of_mem hx
    have hk2 : k < (pws p).length := by unfold pws wds; rw [List.length_map]; exact hk
    have e2 : sg0 (pws p) k = bsOf x := by
      have := sg_elem hk2
      rw [this]
      have h9 : (pws p)[k] = bsOf ((wdL 47 p.data.toList)[k]) := List.getElem_map (h := by rw [List.length_map]; exact hk) bsOf
      rw [h9, e]
    have h1 := h.1 k hk2
    rw [pwOk, e2] at h1
    have hb2 : (32 : UInt8) ∈ (bsOf x).data.toList := hb
    simp only [Bool.or_eq_true, Bool.and_eq_true, decide_eq_true_eq] at h1
    rcases h1 with h1 | h1 | ⟨h1, _⟩
    · exact nm_nosp h1 hb2
    · rw [h1] at hb2; exact absurd hb2 (by decide)
    · rw [h1] at hb2; exact absurd hb2 (by decide)
theorem l1N_nosp : ∀ n : Fin 16, (32 : UInt8) ∉ (l1N (n.1 : Int)).data.toList := by decide +kernel
theorem ok_pat {p : ByteArray} {v : Int} {b : Bool} (h : ruOk [(p, v, b)] = true) : patOk p = true := by
  simp only [ruOk, Bool.and_eq_true, decide_eq_true_eq] at h
  have h1 := h.2 0 Nat.zero_lt_one
  simp only [ruGood, Bool.and_eq_true] at h1
  exact h1.1
theorem sws_rt {p : ByteArray} {v : Int} {b : Bool} (h : ruOk [(p, v, b)] = true) : sws (rtV p v b) = [wordOf b, p, l1N v] := by
  obtain ⟨h0, h1⟩ := ok_acts h
  obtain ⟨n, rfl⟩ := Int.eq_ofNat_of_zero_le (show 0 ≤ v by omega)
  unfold sws wds
  rw [rt_list h, wdL_app _ (word_nosp b), wdL_app _ (pat_nosp (ok_pat h)), wdL_one (l1N_nosp ⟨n, by omega⟩)]
  simp only [List.map_cons, List.map_nil, bsOf_data]
theorem word_allow (b : Bool) : decide (wordOf b = wAllow) = b := by cases b <;> decide
/-- A text of a valid rule is the text of this rule. -/
theorem rt_read {p : ByteArray} {v : Int} {b : Bool} (h : ruOk [(p, v, b)] = true) : RdI (rtV p v b) (p, v, b) := by
  refine ⟨by rw [sws_rt h]; rfl, by rw [sws_rt h]; rfl, ?_, rfl⟩
  rw [sws_rt h]
  exact (word_allow b).symm
theorem sws_more (s : ByteArray) : (sws (s ++ wSp)).length = (sws s).length + 1 := by
  unfold sws wds
  rw [List.length_map, List.length_map, ByteArray.data_append, Array.toList_append]
  show (wdL 32 (s.data.toList ++ [32])).length = _
  generalize s.data.toList = l
  induction l with
  | nil => rfl
  | cons b l ih =>
    rw [List.cons_append, wdL, wdL]
    by_cases hb : b = 32
    · rw [if_pos hb, if_pos hb]; simp [ih]
    · rw [if_neg hb, if_neg hb]
      cases h1 : wdL 32 l with
      | nil => exact absurd h1 (wdL_ne _ _)
      | cons x t =>
        cases h2 : wdL 32 (l ++ [32]) with
        | nil => exact absurd h2 (wdL_ne _ _)
        | cons y u =>
          rw [h1, h2] at ih
          simpa using ih
end Go.Proofs.YtpmelhkhmichcaaDoor
