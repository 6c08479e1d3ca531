/- A region that draws its order, makes one box and stores into it at its end: the last box of its type. Rules of texts, read by the reference. -/
import Derived.Test.YtpmelhkhmichcaaDoorRdC
namespace Go.Proofs.YtpmelhkhmichcaaDoor
set_option linter.unusedSimpArgs false
set_option linter.unusedVariables false
open Go.RowKit

/-- No new block of the type. -/
def NewN (t : TypeId) (w w' : World) : Prop := Below w.heap.size w w' ∧ ∀ (k : Nat) (cs : Array Value) (fr : Nat × Nat), w.heap.size ≤ k → w'.heap[k]? ≠ some (.cells cs t fr)
theorem none_ge {w : World} {k : Nat} (h : w.heap.size ≤ k) : w.heap[k]? = none := Array.getElem?_eq_none h
theorem NewN.refl {t : TypeId} (w : World) : NewN t w w := ⟨Below.refl _ _, fun k cs fr h => by rw [none_ge h]; simp⟩
theorem NewN.trans {t : TypeId} {a b c : World} (h : NewN t a b) (h' : NewN t b c) : NewN t a c := by
  refine ⟨ext_trans h.1 h'.1, fun k cs fr hk => ?_⟩
  by_cases hb : k < b.heap.size
  · rw [h'.1.block k hb]; exact h.2 k cs fr hk
  · exact h'.2 k cs fr (by omega)
theorem NewN.alloc {t : TypeId} {a b : World} {o : Obj} (h : NewN t a b) (ho : ∀ cs fr, o ≠ .cells cs t fr) : NewN t a (b.alloc o) := by
  refine ⟨ext_alloc h.1 _, fun k cs fr hk => ?_⟩
  rcases Nat.lt_trichotomy k b.heap.size with hb | hb | hb
  · rw [Below.heap_alloc b o k (by omega)]; exact h.2 k cs fr hk
  · subst hb
    rw [heap_alloc_new b o]
    intro e
    exact ho cs fr (Option.some.inj e)
  · rw [none_ge (by simp; omega)]; simp
/-- The last block of the type, a box of n cells. -/
def LastB (t : TypeId) (n g : Nat) (w : World) : Prop := (∃ cs : Array Value, cs.size = n ∧ w.heap[g]? = some (.cells cs t)) ∧ ∀ (k : Nat) (cs : Array Value) (fr : Nat × Nat), g < k → w.heap[k]? ≠ some (.cells cs t fr)
theorem LastB.uniq {t : TypeId} {n g g' : Nat} {w : World} (h : LastB t n g w) (h' : LastB t n g' w) : g = g' := by
  obtain ⟨⟨cs, _, e⟩, h1⟩ := h
  obtain ⟨⟨cs', _, e'⟩, h2⟩ := h'
  rcases Nat.lt_trichotomy g g' with hl | hl | hl
  · exact absurd e' (h1 _ _ _ hl)
  · exact hl
  · exact absurd e (h2 _ _ _ hl)
theorem LastB.lt {t : TypeId} {n g : Nat} {w : World} (h : LastB t n g w) : g < w.heap.size := by
  obtain ⟨⟨cs, _, e⟩, _⟩ := h
  exact (Array.getElem?_eq_some_iff.1 e).1
theorem LastB.new {t : TypeId} {n g : Nat} {w w' : World} (h : LastB t n g w) (hn : NewN t w w') : LastB t n g w' := by
  have hl := h.lt
  obtain ⟨⟨cs, e1, e⟩, h1⟩ := h
  refine ⟨⟨cs, e1, by rw [hn.1.block g hl]; exact e⟩, fun k cs' fr hk => ?_⟩
  by_cases hb : k < w.heap.size
  · rw [hn.1.block k hb]; exact h1 k cs' fr hk
  · exact hn.2 k cs' fr (by omega)
theorem LastB.made {t : TypeId} {cs : Array Value} (w : World) : LastB t cs.size w.heap.size (w.alloc (.cells cs t)) := by
  refine ⟨⟨cs, rfl, heap_alloc_new w _⟩, fun k cs' fr hk => ?_⟩
  rw [none_ge (by simp; omega)]; simp
theorem LastB.set {t : TypeId} {n g : Nat} {w : World} (h : LastB t n g w) (a : Addr) (v : Value) (ha : a.spot = Option.none) : LastB t n g (w.setCell a v) := by
  obtain ⟨⟨cs, e1, e⟩, h1⟩ := h
  have hh : (w.setCell a v).heap = w.heap.modify a.block fun
      | .cells c elem frozen => .cells (if a.spot.isSome then c else c.setIfInBounds a.off v) elem frozen
      | o => o := rfl
  constructor
  · by_cases hg : g = a.block
    · refine ⟨cs.setIfInBounds a.off v, by simpa using e1, ?_⟩
      rw [hh, Array.getElem?_modify, if_pos hg.symm, e, ha]
      rfl
    · exact ⟨cs, e1, by rw [Below.heap_setCell _ _ _ _ hg]; exact e⟩
  · intro k cs' fr hk e2
    by_cases hg : k = a.block
    · rw [hh, Array.getElem?_modify, if_pos hg.symm] at e2
      cases ho : w.heap[k]? with
      | none => rw [ho] at e2; cases e2
      | some o =>
        rw [ho] at e2
        cases o with
        | cells c el f =>
          simp only [Option.map_some, Option.some.injEq, Obj.cells.injEq] at e2
          obtain ⟨_, rfl, rfl⟩ := e2
          exact h1 k c _ hk ho
        | _ => simp at e2
    · rw [Below.heap_setCell _ _ _ _ hg] at e2
      exact h1 k cs' fr hk e2
theorem LastB.cells {t : TypeId} {g : Nat} {w : World} (h : LastB t 3 g w) : ∃ x y z : Value, w.cell? ⟨g, 0, none⟩ = some x ∧ w.cell? ⟨g, 1, none⟩ = some y ∧ w.cell? ⟨g, 2, none⟩ = some z ∧ w.frozen? ⟨g, 0, none⟩ = false ∧ w.frozen? ⟨g, 1, none⟩ = false ∧ w.frozen? ⟨g, 2, none⟩ = false := by
  obtain ⟨⟨⟨l⟩, e1, e⟩, _⟩ := h
  match l, e1 with
  | [x, y, z], _ =>
    refine ⟨x, y, z, ?_, ?_, ?_, ?_, ?_, ?_⟩
    all_goals simp [World.cell?, World.frozen?, e]
set_option maxRecDepth 100000 in
set_option maxHeartbeats 2000000 in
theorem l1Number_new {k : Int} (w : World) (h0 : 0 ≤ k) (hk : k ≤ 4611686018427387904) :
    Calls Tryd.prog 76 #[.int .i64 k] w fun e w' => e = .returned (.string (l1N k)) ∧ NewN 25 w w' := by
  have HD : Hid (l1N k = l1Go k.toNat k ⟨#[UInt8.ofNat (48 + k % 10).toNat]⟩) := Lib.hid rfl
  go_enter Tryd.func76, Tryd.ntmps76
  go_wp2
  rw [run_one_byte (by omega) (by omega)]
  go_wp2
  go_loopw [0, 3] (fun kv ov wr => ∃ (f : Nat) (m : Int) (out : ByteArray), kv = .int .i64 m ∧ ov = .string out ∧ 0 ≤ m ∧ m ≤ 4611686018427387904 ∧ (m.toNat ≤ f ∧ out.size + m.toNat ≤ 4611686018427387905) ∧ Hid (l1Go f m out = l1N k) ∧ NewN 25 w wr) (fun kv _ _ => (intOf kv).toNat)
  case atStart => exact ⟨k.toNat, k, _, rfl, rfl, by omega, hk, ⟨Nat.le_refl _, by show 1 + k.toNat ≤ _; omega⟩, Lib.hid HD.out.symm, (NewN.refl _).alloc (by intro cs fr h; cases h)⟩
  case round =>
    obtain ⟨f, m, out, rfl, rfl, hm, hm1, ⟨hf, hz⟩, HG, hB⟩ := hrel
    by_cases hlt : 9 < m
    · obtain ⟨f, rfl⟩ : ∃ g, f = g + 1 := ⟨f - 1, by omega⟩
      have HG1 : Hid (l1Go f (m / 10) (⟨#[UInt8.ofNat (48 + m / 10 % 10).toNat]⟩ ++ out) = l1N k) := Lib.hid (by rw [← HG.out, l1Go, if_neg (by omega)])
      have ez : (⟨#[UInt8.ofNat (48 + m / 10 % 10).toNat]⟩ ++ out : ByteArray).size = 1 + out.size := by rw [ByteArray.size_append]; rfl
      have HZ := Lib.hid ez
      clear ez
      go_wp2
      rw [run_one_byte (by omega) (by omega)]
      go_wp2
      go_roundw
      case rel => exact ⟨f, m / 10, _, rfl, rfl, by omega, by omega, ⟨by omega, by rw [HZ.out]; omega⟩, HG1, hB.alloc (by intro cs fr h; cases h)⟩
      case measure => simp [intOf]; omega
    · have HE : Hid (l1Go f m out = out) := Lib.hid (by cases f <;> simp [l1Go]; omega)
      go_wp2
      go_ret
      exact ⟨by rw [← HG.out, HE.out]; rfl, hB⟩
set_option maxRecDepth 100000 in
set_option maxHeartbeats 4000000 in
theorem l5Number_new {s : ByteArray} {w : World} (hs : s.size ≤ 2097152) :
    Calls Tryd.prog 54 #[.string s] w fun e w' => ∃ v : Int, e = .returned (.int .i64 v) ∧ Rd15 s v ∧ NewN 25 w w' := by
  go_enter Tryd.func54, Tryd.ntmps54
  go_wp2
  go_loopw [3, 4] (fun nv iv wr => ∃ k : Nat, k ≤ s.size ∧ iv = .int .i64 k ∧ nv = .int .i64 (numK s k) ∧ (k ≤ 2 ∧ 0 ≤ numK s k ∧ numK s k ≤ 99 ∧ (k ≤ 1 → numK s k ≤ 9) ∧ (k = 0 → numK s k = 0)) ∧ NewN 25 w wr) (fun _ iv _ => s.size - (intOf iv).toNat)
  case atStart => exact ⟨0, Nat.zero_le _, rfl, rfl, ⟨by omega, by simp [numK], by simp [numK], by simp [numK], by simp [numK]⟩, NewN.refl _⟩
  case round =>
    obtain ⟨k, hk, rfl, rfl, ⟨hk2, hn0, hn1, hn2, hn3⟩, hB⟩ := hrel
    by_cases hlt : k < s.size
    · have hx := byteAt_of hlt
      have eg : byteAt s k = ((s[k]'hlt).toNat : Int) := hx
      obtain ⟨y, hy⟩ : ∃ y : Nat, (s[k]'hlt).toNat = y := ⟨_, rfl⟩
      have hy2 : y < 256 := by rw [← hy]; exact (s[k]'hlt).toNat_lt
      have HNK : Hid (numK s (k + 1) = 10 * numK s k + ((y : Int) - 48)) := Lib.hid (by rw [numK, eg, hy])
      have HDG : Hid (digAt s k = (decide ((48 : Int) ≤ (y : Int)) && decide ((y : Int) ≤ 57))) := Lib.hid (by rw [digAt, eg, hy])
      obtain ⟨n, hn⟩ : ∃ n, numK s k = n := ⟨_, rfl⟩
      rw [hn] at hn0 hn1 hn2 hn3 HNK
      rw [hn]
      have HN := Lib.hid hn
      clear eg hn
      by_cases h1 : (y : Int) < 48
      · have HR := Lib.hid (rd15_bad hlt (.inl (by rw [HDG.out]; simp; omega)))
        go_wp2
        go_ret
        exact ⟨-1, rfl, HR.out, hB⟩
      · by_cases h2 : 57 < (y : Int)
        · have HR := Lib.hid (rd15_bad hlt (.inl (by rw [HDG.out]; simp; omega)))
          go_wp2
          go_ret
          exact ⟨-1, rfl, HR.out, hB⟩
        · by_cases h3 : 1 < k
          · have HR := Lib.hid (rd15_bad hlt (.inr h3))
            go_wp2
            go_ret
            exact ⟨-1, rfl, HR.out, hB⟩
          · go_wp2
            go_roundw
            case rel => exact ⟨k + 1, by omega, by go_num, by rw [HNK.out], ⟨by omega, by rw [HNK.out]; omega, by rw [HNK.out]; omega, fun h => by rw [HNK.out]; omega, fun h => by omega⟩, hB⟩
            case measure => simp [intOf]; omega
    · obtain rfl : k = s.size := by omega
      have HR0 := Lib.hid (rd15_num s)
      obtain ⟨n, hn⟩ : ∃ n, numK s s.size = n := ⟨_, rfl⟩
      rw [hn] at hn0 hn1 HR0
      rw [hn]
      have HN := Lib.hid hn.symm
      clear hn hn2 hn3
      by_cases h0 : s.toList = []
      · have HR := Lib.hid (rd15_nil (s := s) (by rw [Go.ByteArray.toList_eq] at h0; have := congrArg List.length h0; simpa using this))
        have e1 : (s.toList == []) = true := by rw [h0]; rfl
        go_wp2
        go_ret
        exact ⟨-1, rfl, HR.out, hB⟩
      · have e1 : (s.toList == []) = false := by simpa using h0
        go_wp2_with fail
        refine (l1Number_new _ hn0 (by omega)).mono ?_
        rintro e w2 ⟨rfl, hb⟩
        replace hB := hB.trans hb
        clear hb
        by_cases hq : l1N n = s
        · have e2 : ((l1N n).toList == s.toList) = true := by rw [str_beq]; simpa using hq
          have HQ := Lib.hid hq
          clear hq
          go_wp2
          go_ret
          exact ⟨n, rfl, HR0.out, hB⟩
        · have e2 : ((l1N n).toList == s.toList) = false := by rw [str_beq]; simpa using hq
          have HR := Lib.hid (rd15_ne HN.out hq)
          clear hq
          go_wp2
          go_ret
          exact ⟨-1, rfl, HR.out, hB⟩
/-- The last box holds the rule. -/
def StB (W : World) (t p : ByteArray) (b : Bool) (w : World) : Prop := ∃ (g : Nat) (v : Int), Rd15 t v ∧ W.heap.size ≤ g ∧ LastB 25 3 g w ∧ (w.cell? ⟨g, 0, none⟩ = some (.string p) ∧ w.cell? ⟨g, 1, none⟩ = some (.int .i64 v) ∧ w.cell? ⟨g, 2, none⟩ = some (.bool b)) ∧ Below W.heap.size W w
theorem StB.new {W w w' : World} {t p : ByteArray} {b : Bool} (h : StB W t p b w) (hb : NewN 25 w w') : StB W t p b w' :=
  let ⟨g, v, h1, h2, h3, ⟨c0, c1, c2⟩, h4⟩ := h
  ⟨g, v, h1, h2, h3.new hb, ⟨below_cell hb.1 c0, below_cell hb.1 c1, below_cell hb.1 c2⟩, ext_trans h4 hb.1⟩
theorem StB.store {W w : World} {t p : ByteArray} {b : Bool} {g : Nat} {v : Int} (hv : Rd15 t v) (hg : W.heap.size ≤ g) (hl : LastB 25 3 g w) (hB : Below W.heap.size W w) :
    StB W t p b (((w.setCell ⟨g, 0, none⟩ (.string p)).setCell ⟨g, 1, none⟩ (.int .i64 v)).setCell ⟨g, 2, none⟩ (.bool b)) := by
  obtain ⟨x, y, z, c0, c1, c2, _⟩ := hl.cells
  refine ⟨g, v, hv, hg, ((hl.set _ _ rfl).set _ _ rfl).set _ _ rfl, ⟨?_, ?_, ?_⟩, ((hB.setCell hg _).setCell hg _).setCell hg _⟩
  · exact (World.cell?_setCell_other _ _ _ _ (by intro h; cases h)).trans ((World.cell?_setCell_other _ _ _ _ (by intro h; cases h)).trans (World.cell?_setCell_same _ _ _ c0))
  · exact (World.cell?_setCell_other _ _ _ _ (by intro h; cases h)).trans (World.cell?_setCell_same _ _ _ ((World.cell?_setCell_other _ _ _ _ (by intro h; cases h)).trans c1))
  · exact World.cell?_setCell_same _ _ _ ((World.cell?_setCell_other _ _ _ _ (by intro h; cases h)).trans ((World.cell?_setCell_other _ _ _ _ (by intro h; cases h)).trans c2))
set_option maxRecDepth 100000 in
set_option maxHeartbeats 8000000 in
theorem specReadRule {s : ByteArray} {w : World} (hs : s.size ≤ 1048576) :
    Calls Tryd.prog 17 #[.string s] w fun e w' => ∃ (r : Rul) (ok : Bool), e = .returned (.tuple #[.agg #[.string r.1, .int .i64 r.2.1, .bool r.2.2], .bool ok]) ∧ RrP s r ok ∧ Below w.heap.size w w' := by
  by_cases h3 : (sws s).length = 3
  · have HY := Lib.hid (fun v => rr_yes (s := s) (v := v) h3)
    have hz0 := sws_size (s := s) (k := 0) (by omega)
    have hz1 := sws_size (s := s) (k := 1) (by omega)
    have hz2 := sws_size (s := s) (k := 2) (by omega)
    go_enter Tryd.func17, Tryd.ntmps17
    go_wp2_with fail
    refine (l21Words_any (by omega)).mono ?_
    rintro e w2 ⟨A, c, rfl, ho, hb⟩
    have hS : sgR w2 A (sws s) := sgR.own rfl (by omega) ho
    obtain ⟨b, off, rfl, hcs⟩ := hS.cells (by omega)
    have c0 := hcs 0 (by omega)
    rw [Nat.add_zero] at c0
    have c1 := hcs 1 (by omega)
    have c2 := hcs 2 (by omega)
    rw [h3]
    have H3 := Lib.hid h3
    have HB := Lib.hid hb
    clear ho hS hcs h3 hb
    have hbe : decide (sg0 (sws s) 0 = wAllow) = ((sg0 (sws s) 0).toList == [97, 108, 108, 111, 119]) := by
      rw [← str_beq, show wAllow.toList = [97, 108, 108, 111, 119] by rw [Go.ByteArray.toList_eq]; rfl]
    generalize hq : sg0 (sws s) 0 = q at *
    obtain ⟨b0, hb0⟩ : ∃ b0, (q.toList == [97, 108, 108, 111, 119]) = b0 := ⟨_, rfl⟩
    rw [hb0] at hbe
    rw [hbe] at HY
    have HBE := Lib.hid hbe
    clear hbe
    have HQ := Lib.hid hq
    clear hq
    obtain ⟨p, hp⟩ : ∃ p, sg0 (sws s) 1 = p := ⟨_, rfl⟩
    obtain ⟨t, ht⟩ : ∃ t, sg0 (sws s) 2 = t := ⟨_, rfl⟩
    rw [hp] at c1 hz1 HY
    rw [ht] at c2 hz2
    have HP := Lib.hid hp
    have HT := Lib.hid ht
    clear hp ht
    go_wp2
    refine wp_region_draws2H (some 13) (fun wz => Below w2.heap.size w2 wz) (fun wz => StB w2 t p b0 wz) (fun i wz vz => match i with | 0 => vz = .slice (some ⟨b, off, Option.none⟩) 3 c | 1 => vz = .pointer (some ⟨b, off + 1, Option.none⟩) | 2 => vz = .string p | 3 => vz = .slice (some ⟨b, off, Option.none⟩) 3 c | 4 => vz = .pointer (some ⟨b, off + 2, Option.none⟩) | 5 => vz = .string t | 6 => ∃ vv : Int, vz = .int .i64 vv ∧ Rd15 t vv | 7 => vz = .slice (some ⟨b, off, Option.none⟩) 3 c | 8 => vz = .pointer (some ⟨b, off, Option.none⟩) | 9 => vz = .string q | 10 => vz = .bool b0 | 11 => ∃ vv : Int, vz = .agg #[.string p, .int .i64 vv, .bool b0] ∧ Rd15 t vv | 12 => ∃ g : Nat, vz = .pointer (some ⟨g, 0, Option.none⟩) ∧ w2.heap.size ≤ g ∧ LastB 25 3 g wz | _ => True) (fun _ _ => True) (fun i w w' => (i = 13 ∧ ∀ g, LastB 25 3 g w → LastB 25 3 g w') ∨ (i = 12 ∧ Below w.heap.size w w') ∨ NewN 25 w w') (fun _ => Option.none) (by kernel_rfl) (by kernel_rfl) (by kernel_rfl) ?stab4 ?stabG4 ?stabH4 trivial (ext_drew (Below.refl _ _)) ?all4 ?fin4
    case stab4 =>
      intro i j wa wb v hR hk hne hd _ h2 hT
      match j, hk, hne, hd, h2, hT with
      | 0, hk, hne, hd, h2, hT => exact (hT)
      | 1, hk, hne, hd, h2, hT => exact (hT)
      | 2, hk, hne, hd, h2, hT => exact (hT)
      | 3, hk, hne, hd, h2, hT => exact (hT)
      | 4, hk, hne, hd, h2, hT => exact (hT)
      | 5, hk, hne, hd, h2, hT => exact (hT)
      | 6, hk, hne, hd, h2, hT => exact (hT)
      | 7, hk, hne, hd, h2, hT => exact (hT)
      | 8, hk, hne, hd, h2, hT => exact (hT)
      | 9, hk, hne, hd, h2, hT => exact (hT)
      | 10, hk, hne, hd, h2, hT => exact (hT)
      | 11, hk, hne, hd, h2, hT => exact (hT)
      | 12, hk, hne, hd, h2, hT => exact (match hT with | ⟨g, h1, h2, h3⟩ => ⟨g, h1, h2, (by rcases hR with ⟨_, h⟩ | ⟨e, _⟩ | h <;> first | exact h g h3 | exact h3.new h | exact absurd e.symm hne)⟩)
      | n + 13, _, _, _, _, _ => trivial
    case stabG4 =>
      intro i wa wb hR hne hG
      rcases hR with ⟨e, _⟩ | ⟨_, h⟩ | h
      · exact absurd (by rw [e]) hne
      · exact ext_trans hG h
      · exact ext_trans hG h.1
    case stabH4 =>
      intro i wa wb hR hne hd h
      rcases hR with ⟨e, _⟩ | ⟨e, _⟩ | hb
      · exact absurd (by rw [e]) hne
      · subst e
        exact absurd (hd 13 rfl) (by rw [show depB _ 13 12 = true by kernel_rfl]; simp)
      · exact h.new hb
    case all4 =>
      refine RAllH.cons rfl ?_ (RAllH.cons rfl ?_ (RAllH.cons rfl ?_ (RAllH.cons rfl ?_ (RAllH.cons rfl ?_ (RAllH.cons rfl ?_ (RAllH.cons rfl ?_ (RAllH.cons rfl ?_ (RAllH.cons rfl ?_ (RAllH.cons rfl ?_ (RAllH.cons rfl ?_ (RAllH.cons rfl ?_ (RAllH.cons rfl ?_ (RAllH.cons rfl ?_ (RAllH.none_))))))))))))))
      · intro a kq_ wa K Q _ _ hp hK0
        have hI : Below w2.heap.size w2 wa := hp.pre (fun c hc => by cases hc; kernel_rfl)
        have hK := fun v w' h1 h2 (_ : Below w2.heap.size w2 w') => hK0 v w' h1 (.inr (.inr h2)) trivial (fun e => by cases e)
        exact op_move _ (.inl rfl) (hK _ _ (hp.keep 4 (by kernel_rfl)) (NewN.refl _) hI)
      · intro a kq_ wa K Q _ _ hp hK0
        have hI : Below w2.heap.size w2 wa := hp.pre (fun c hc => by cases hc; kernel_rfl)
        have hK := fun v w' h1 h2 (_ : Below w2.heap.size w2 w') => hK0 v w' h1 (.inr (.inr h2)) trivial (fun e => by cases e)
        have e12 := tmp_of (show a.eval (.tmp 12) = .slice (some ⟨b, off, Option.none⟩) 3 c from hp.dep 0 12 (by kernel_rfl))
        go_simp
        exact hK _ _ rfl (NewN.refl _) hI
      · intro a kq_ wa K Q _ _ hp hK0
        have hI : Below w2.heap.size w2 wa := hp.pre (fun c hc => by cases hc; kernel_rfl)
        have hK := fun v w' h1 h2 (_ : Below w2.heap.size w2 w') => hK0 v w' h1 (.inr (.inr h2)) trivial (fun e => by cases e)
        have e13 := tmp_of (show a.eval (.tmp 13) = .pointer (some ⟨b, off + 1, Option.none⟩) from hp.dep 1 13 (by kernel_rfl))
        have c1_ := below_cell hI c1
        go_simp
        exact hK _ _ rfl (NewN.refl _) hI
      · intro a kq_ wa K Q _ _ hp hK0
        have hI : Below w2.heap.size w2 wa := hp.pre (fun c hc => by cases hc; kernel_rfl)
        have hK := fun v w' h1 h2 (_ : Below w2.heap.size w2 w') => hK0 v w' h1 (.inr (.inr h2)) trivial (fun e => by cases e)
        exact op_move _ (.inl rfl) (hK _ _ (hp.keep 4 (by kernel_rfl)) (NewN.refl _) hI)
      · intro a kq_ wa K Q _ _ hp hK0
        have hI : Below w2.heap.size w2 wa := hp.pre (fun c hc => by cases hc; kernel_rfl)
        have hK := fun v w' h1 h2 (_ : Below w2.heap.size w2 w') => hK0 v w' h1 (.inr (.inr h2)) trivial (fun e => by cases e)
        have e15 := tmp_of (show a.eval (.tmp 15) = .slice (some ⟨b, off, Option.none⟩) 3 c from hp.dep 3 15 (by kernel_rfl))
        go_simp
        exact hK _ _ rfl (NewN.refl _) hI
      · intro a kq_ wa K Q _ _ hp hK0
        have hI : Below w2.heap.size w2 wa := hp.pre (fun c hc => by cases hc; kernel_rfl)
        have hK := fun v w' h1 h2 (_ : Below w2.heap.size w2 w') => hK0 v w' h1 (.inr (.inr h2)) trivial (fun e => by cases e)
        have e16 := tmp_of (show a.eval (.tmp 16) = .pointer (some ⟨b, off + 2, Option.none⟩) from hp.dep 4 16 (by kernel_rfl))
        have c2_ := below_cell hI c2
        go_simp
        exact hK _ _ rfl (NewN.refl _) hI
      · intro a kq_ wa K Q _ _ hp hK0
        have hI : Below w2.heap.size w2 wa := hp.pre (fun c hc => by cases hc; kernel_rfl)
        have hK := fun v w' h1 h2 (_ : Below w2.heap.size w2 w') => hK0 v w' h1 (.inr (.inr h2)) trivial (fun e => by cases e)
        have e17 := tmp_of (show a.eval (.tmp 17) = .string t from hp.dep 5 17 (by kernel_rfl))
        go_simp
        refine (l5Number_new (by omega)).mono ?_
        rintro e wb ⟨vv, rfl, hv, hb⟩
        exact hK _ _ (⟨vv, rfl, hv⟩) hb (ext_trans hI hb.1)
      · intro a kq_ wa K Q _ _ hp hK0
        have hI : Below w2.heap.size w2 wa := hp.pre (fun c hc => by cases hc; kernel_rfl)
        have hK := fun v w' h1 h2 (_ : Below w2.heap.size w2 w') => hK0 v w' h1 (.inr (.inr h2)) trivial (fun e => by cases e)
        exact op_move _ (.inl rfl) (hK _ _ (hp.keep 4 (by kernel_rfl)) (NewN.refl _) hI)
      · intro a kq_ wa K Q _ _ hp hK0
        have hI : Below w2.heap.size w2 wa := hp.pre (fun c hc => by cases hc; kernel_rfl)
        have hK := fun v w' h1 h2 (_ : Below w2.heap.size w2 w') => hK0 v w' h1 (.inr (.inr h2)) trivial (fun e => by cases e)
        have e19 := tmp_of (show a.eval (.tmp 19) = .slice (some ⟨b, off, Option.none⟩) 3 c from hp.dep 7 19 (by kernel_rfl))
        go_simp
        exact hK _ _ rfl (NewN.refl _) hI
      · intro a kq_ wa K Q _ _ hp hK0
        have hI : Below w2.heap.size w2 wa := hp.pre (fun c hc => by cases hc; kernel_rfl)
        have hK := fun v w' h1 h2 (_ : Below w2.heap.size w2 w') => hK0 v w' h1 (.inr (.inr h2)) trivial (fun e => by cases e)
        have e20 := tmp_of (show a.eval (.tmp 20) = .pointer (some ⟨b, off, Option.none⟩) from hp.dep 8 20 (by kernel_rfl))
        have c0_ := below_cell hI c0
        go_simp
        exact hK _ _ rfl (NewN.refl _) hI
      · intro a kq_ wa K Q _ _ hp hK0
        have hI : Below w2.heap.size w2 wa := hp.pre (fun c hc => by cases hc; kernel_rfl)
        have hK := fun v w' h1 h2 (_ : Below w2.heap.size w2 w') => hK0 v w' h1 (.inr (.inr h2)) trivial (fun e => by cases e)
        have e21 := tmp_of (show a.eval (.tmp 21) = .string q from hp.dep 9 21 (by kernel_rfl))
        go_simp
        exact hK _ _ rfl (NewN.refl _) hI
      · intro a kq_ wa K Q _ _ hp hK0
        have hI : Below w2.heap.size w2 wa := hp.pre (fun c hc => by cases hc; kernel_rfl)
        have hK := fun v w' h1 h2 (_ : Below w2.heap.size w2 w') => hK0 v w' h1 (.inr (.inr h2)) trivial (fun e => by cases e)
        have e14 := tmp_of (show a.eval (.tmp 14) = .string p from hp.dep 2 14 (by kernel_rfl))
        have t18 : ∃ vv : Int, (a.eval (.tmp 18)) = .int .i64 vv ∧ Rd15 t vv := hp.dep 6 18 (by kernel_rfl)
        have e22 := tmp_of (show a.eval (.tmp 22) = .bool b0 from hp.dep 10 22 (by kernel_rfl))
        obtain ⟨vv, e18, hv⟩ := t18
        replace e18 := tmp_of e18
        go_simp
        exact hK _ _ ⟨vv, rfl, hv⟩ (NewN.refl _) hI
      · intro a kq_ wa K Q _ _ hp hK0
        have hI : Below w2.heap.size w2 wa := hp.pre (fun c hc => by cases hc; kernel_rfl)
        have hK := fun v w' h1 h2 => hK0 v w' h1 (.inr (.inl ⟨rfl, h2⟩)) trivial (fun e => by cases e)
        go_simp
        exact hK _ _ ⟨_, rfl, hI.size, LastB.made (cs := #[.string ⟨#[]⟩, .int .i64 0, .bool false]) _⟩ (below_alloc _ _)
      · intro a kq_ wa K Q _ _ hp hK0
        have hI : Below w2.heap.size w2 wa := hp.pre (fun c hc => by cases hc; kernel_rfl)
        have hS := fun v w' hr h => hK0 v w' trivial (.inl ⟨rfl, hr⟩) trivial (fun _ => h)
        have t5 : ∃ g : Nat, (a.eval (.tmp 5)) = .pointer (some ⟨g, 0, Option.none⟩) ∧ w2.heap.size ≤ g ∧ LastB 25 3 g wa := hp.dep 12 5 (by kernel_rfl)
        have t23 : ∃ vv : Int, (a.eval (.tmp 23)) = .agg #[.string p, .int .i64 vv, .bool b0] ∧ Rd15 t vv := hp.dep 11 23 (by kernel_rfl)
        obtain ⟨g, e5, hg0, hg1⟩ := t5
        obtain ⟨vv, e23, hv⟩ := t23
        replace e5 := tmp_of e5
        replace e23 := tmp_of e23
        have hgl := hg1.lt
        obtain ⟨x, y, z, d0, d1, d2, f0, f1, f2⟩ := hg1.cells
        go_simp
        exact hS (.tuple #[]) _ (fun g' h => ((h.set _ _ rfl).set _ _ rfl).set _ _ rfl) (StB.store hv hg0 hg1 hI)
    case fin4 =>
      intro f w9 hT _ hH
      have hH := hH 13 rfl (by decide)
      have hr : ∃ g : Nat, (f 12) = .pointer (some ⟨g, 0, Option.none⟩) ∧ w2.heap.size ≤ g ∧ LastB 25 3 g w9 := hT 12 (by decide) rfl rfl
      clear hT
      obtain ⟨g, e12, hg0, hg1⟩ := hr
      obtain ⟨g', v, hv, _, hl, ⟨x0, x1, x2⟩, hB9⟩ := hH
      obtain rfl := hl.uniq hg1
      simp only [putAll, e12]
      go_simp
      obtain ⟨W0, hW0⟩ : ∃ W0, W0 = w.alloc (.cells #[.string ⟨#[]⟩, .int .i64 0, .bool false] 25) := ⟨_, rfl⟩
      have hBW : Below w.heap.size w W0 := by rw [hW0]; exact below_alloc _ _
      have z0 : W0.cell? ⟨w.heap.size, 0, none⟩ = some (.string ⟨#[]⟩) := by rw [hW0]; exact box_cell w _ _ 0 _ rfl
      have z1 : W0.cell? ⟨w.heap.size, 1, none⟩ = some (.int .i64 0) := by rw [hW0]; exact box_cell w _ _ 1 _ rfl
      have z2 : W0.cell? ⟨w.heap.size, 2, none⟩ = some (.bool false) := by rw [hW0]; exact box_cell w _ _ 2 _ rfl
      have f0 : W0.frozen? ⟨w.heap.size, 0, none⟩ = false := by rw [hW0]; simp
      have f1 : W0.frozen? ⟨w.heap.size, 1, none⟩ = false := by rw [hW0]; simp
      have f2 : W0.frozen? ⟨w.heap.size, 2, none⟩ = false := by rw [hW0]; simp
      have hB1 := HB.out
      rw [← hW0] at hB1
      have hBall : Below W0.heap.size W0 w9 := ext_trans hB1 hB9
      have hgx := block_lt_of_cell x0
      have HBall := Lib.hid hBall
      have HBW := Lib.hid hBW
      have HV := Lib.hid hv
      clear hW0 hB1 c0 c1 c2 hBall hBW HB hB9 hl hg1 hg0 e12 hv
      obtain ⟨ok, hok⟩ : ∃ ok, ruOk [(p, v, b0)] = ok := ⟨_, rfl⟩
      have y0 := below_cell (below_alloc w9 (.cells #[.string p, .int .i64 v, .bool b0] 25)) x0
      go_wp2_with fail
      refine (ok_one_s hok rfl (by omega)).mono ?_
      rintro e w3 ⟨rfl, hb3⟩
      replace hb3 : Below w9.heap.size w9 w3 := ext_trans (below_alloc _ _) (by rw [alloc_sz]; exact hb3)
      have hB3 := ext_trans HBall.out hb3
      replace x0 := below_cell hb3 x0
      replace x1 := below_cell hb3 x1
      replace x2 := below_cell hb3 x2
      clear y0
      have hgx := block_lt_of_cell x0
      have HOK := Lib.hid hok
      clear hok
      cases ok
      · have g0 := hB3.frozen (p := ⟨w.heap.size, 0, none⟩) (block_lt_of_cell z0)
        have g1 := hB3.frozen (p := ⟨w.heap.size, 1, none⟩) (block_lt_of_cell z1)
        have g2 := hB3.frozen (p := ⟨w.heap.size, 2, none⟩) (block_lt_of_cell z2)
        rw [f0] at g0
        rw [f1] at g1
        rw [f2] at g2
        replace z0 := below_cell hB3 z0
        replace z1 := below_cell hB3 z1
        replace z2 := below_cell hB3 z2
        have hgw := block_lt_of_cell z0
        have HB3 := Lib.hid (ext_trans HBW.out hB3)
        clear f0 f1 f2 hb3 hB3
        have HRR := Lib.hid (rr_no (s := s) (v := v) (by rw [HT.out]; exact HV.out) (by
          rw [HP.out, HQ.out, HBE.out]
          intro e
          have := rt_nonempty H3.out e
          rw [HOK.out] at this
          cases this))
        go_wp2
        refine bodyPost_ret (v := .tuple #[.agg #[.string ByteArray.empty, .int .i64 0, .bool false], .bool false]) (by simp [results, go_sem, z0, z1, z2]; rfl) rfl ⟨(ByteArray.empty, 0, false), false, rfl, HRR.out, ?_⟩
        have hb2 := HB3.out
        repeat (first | (with_reducible exact hb2) | with_reducible refine Below.setCell ?_ (by (try simp) <;> omega) _)
      · go_wp2_with fail
        refine (specRuleText _ (by omega)).mono ?_
        rintro e w4 ⟨rfl, hb4⟩
        have hB4 := ext_trans hB3 hb4
        replace x0 := below_cell hb4 x0
        replace x1 := below_cell hb4 x1
        replace x2 := below_cell hb4 x2
        have g0 := hB4.frozen (p := ⟨w.heap.size, 0, none⟩) (block_lt_of_cell z0)
        have g1 := hB4.frozen (p := ⟨w.heap.size, 1, none⟩) (block_lt_of_cell z1)
        have g2 := hB4.frozen (p := ⟨w.heap.size, 2, none⟩) (block_lt_of_cell z2)
        rw [f0] at g0
        rw [f1] at g1
        rw [f2] at g2
        replace z0 := below_cell hB4 z0
        replace z1 := below_cell hB4 z1
        replace z2 := below_cell hB4 z2
        have hgw := block_lt_of_cell z0
        have hgx4 := block_lt_of_cell x0
        have HB3 := Lib.hid (ext_trans HBW.out hB4)
        clear f0 f1 f2 hb3 hB3 hb4 hB4
        by_cases hq : rtV p v b0 = s
        · have e2 : ((rtV p v b0).toList == s.toList) = true := by rw [str_beq]; simpa using hq
          have HRR := Lib.hid (HY.out v hq)
          clear hq
          go_wp2
          refine bodyPost_ret (v := .tuple #[.agg #[.string p, .int .i64 v, .bool b0], .bool true]) (by simp [results, go_sem, z0, z1, z2]) rfl ⟨(p, v, b0), true, rfl, HRR.out, ?_⟩
          have hb2 := HB3.out
          repeat (first | (with_reducible exact hb2) | with_reducible refine Below.setCell ?_ (by (try simp) <;> omega) _)
        · have e2 : ((rtV p v b0).toList == s.toList) = false := by rw [str_beq]; simpa using hq
          have HRR := Lib.hid (rr_no (s := s) (v := v) (by rw [HT.out]; exact HV.out) (by rw [HP.out, HQ.out, HBE.out]; exact hq))
          clear hq
          go_wp2
          refine bodyPost_ret (v := .tuple #[.agg #[.string ByteArray.empty, .int .i64 0, .bool false], .bool false]) (by simp [results, go_sem, z0, z1, z2]; rfl) rfl ⟨(ByteArray.empty, 0, false), false, rfl, HRR.out, ?_⟩
          have hb2 := HB3.out
          repeat (first | (with_reducible exact hb2) | with_reducible refine Below.setCell ?_ (by (try simp) <;> omega) _)
  · have HR := Lib.hid (rr_short h3)
    go_enter Tryd.func17, Tryd.ntmps17
    go_wp2_with fail
    refine (l21Words_any (by omega)).mono ?_
    rintro e w1 ⟨A, c, rfl, ho, hb⟩
    obtain ⟨hc, hf⟩ := bcell hb
    have hz := hb.size
    simp only [World.size_alloc] at hz ⊢
    have hl := sws_len s
    have e1 : (((sws s).length : Int) != 3) = true := by simp; omega
    go_wp2
    refine bodyPost_ret (v := .tuple #[.agg #[.string ByteArray.empty, .int .i64 0, .bool false], .bool false]) (by simp [results, go_sem, hc]; rfl) rfl ⟨(ByteArray.empty, 0, false), false, rfl, HR.out, ?_⟩
    have hb2 : Below w.heap.size w w1 := ext_trans (below_alloc _ _) hb
    repeat (first | (with_reducible exact hb2) | with_reducible refine Below.setCell ?_ (by (try simp) <;> omega) _)
end Go.Proofs.YtpmelhkhmichcaaDoor
