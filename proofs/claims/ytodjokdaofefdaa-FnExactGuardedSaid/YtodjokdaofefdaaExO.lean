/- Expressions, as arguments. -/
import Derived.Test.YtodjokdaofefdaaEx
import Derived.Test.YtodjokdaofefdaaOpen
namespace Go.Proofs.Ytodjokdaofefdaa
set_option linter.unusedSimpArgs false
set_option linter.unusedVariables false
open Go.RowKit Go.ChangeShapes Go.WideShapes Go.ChangeAt

theorem list4 : ∀ {cs : List Value}, cs.length = 4 → ∃ a b c d, cs = [a, b, c, d]
  | [a, b, c, d], _ => ⟨a, b, c, d, rfl⟩
theorem ex_opened {H : Type} (enc : TypeId × Value → H) (w : World) (base : Nat) (spare : Nat → Bool) (held : Bool) : ∀ f : Nat,
    (∀ (cs : List Value) (x : DataW H × List MemPlace), DataW.trod enc Try.prog w base spare held f 48 cs = some x → cs.length = 4 ∧ ∃ t, exR f 0 w.heap.size w t cs) ∧
    (∀ (cs : List Value) (x : DataW H × List MemPlace), DataW.trod enc Try.prog w base spare held f 46 cs = some x → ∃ A c l, cs = [.slice A l.length c] ∧ exS f 0 w.heap.size w A l) := by
  intro f
  induction f with
  | zero =>
    refine ⟨fun cs x h => ?_, fun cs x h => ?_⟩
    · simp [DataW.trod] at h
    · simp [DataW.trod] at h
  | succ f ih =>
    refine ⟨fun cs x h => ?_, fun cs x h => ?_⟩
    · obtain ⟨xs, n, hn, _, hl, hxl, hg⟩ := DataW.trod_struct Try.underlying48 h
      obtain rfl : f = n := by omega
      have hc4 : Try.prog.cellsOf 48 = 4 := by kernel_rfl
      have hl4 : cs.length = 4 := hl.trans hc4
      refine ⟨hl4, ?_⟩
      obtain ⟨k, _, rk, _⟩ := opens_field hg hxl 0 _ rfl (opens_int Try.underlying3) (by kernel_rfl)
      obtain ⟨m, _, rm, _⟩ := opens_field hg hxl 1 _ rfl (opens_int Try.underlying3) (by kernel_rfl)
      obtain ⟨s, _, rs, hs⟩ := opens_field hg hxl 2 _ rfl (opens_str Try.underlying9) (by kernel_rfl)
      have h3 : DataW.trod enc Try.prog w base spare held f 46 ((cs.drop 3).take (Try.prog.cellsOf 46)) = xs[3]? := hg 3 _ rfl
      rw [show Try.prog.cellsOf 46 = 1 by kernel_rfl] at h3
      rw [List.getElem?_eq_getElem (show 3 < xs.length by rw [hxl]; decide)] at h3
      obtain ⟨A, c, l, e, hS⟩ := ih.2 _ _ h3
      refine ⟨.nd k m s l, A, c, ?_, hS.1, hS.2, hs⟩
      obtain ⟨a0, a1, a2, a3, rfl⟩ := list4 hl4
      have q0 : [a0] = [.int .i64 k] := rk
      have q1 : [a1] = [.int .i64 m] := rm
      have q2 : [a2] = [.string s] := rs
      have q3 : [a3] = [.slice A l.length c] := e
      cases q0; cases q1; cases q2; cases q3
      rfl
    · rcases DataW.trod_slice Try.underlying46 h with ⟨rfl, _⟩ | ⟨a, len, cap, elems, rest, n, hn, rfl, _, _, hl, hm, hlen, hel, _, _⟩
      · exact ⟨Option.none, 0, [], rfl, exS.nil⟩
      · obtain rfl : f = n := by omega
        obtain ⟨l, hll, hp⟩ := choose_list (p := fun i a0 => ∃ cs : List Value, cs.length = 4 ∧ exR f 0 w.heap.size w a0 cs ∧ ∀ j v, cs[j]? = some v → w.cell? (a.add (i * 4 + j)) = some v) len (fun i hlt => by
          have h1 := hel i hlt
          rw [List.getElem?_eq_getElem (by omega)] at h1
          obtain ⟨cs', h2, h3⟩ := Option.bind_eq_some_iff.1 h1
          obtain ⟨hcl, a0, hR⟩ := ih.1 _ _ h3
          obtain ⟨_, _, hat⟩ := World.cells?_some h2
          refine ⟨a0, cs', hcl, hR, fun j v hj => ?_⟩
          have hjl : j < 4 := by rw [← hcl]; exact (List.getElem?_eq_some_iff.1 hj).1
          have := hat j (by omega)
          rw [show Try.prog.cellsOf 48 = 4 by kernel_rfl, Go.Deep.add_add] at this
          rw [this, hj])
        subst hll
        have key : 0 < l.length → ∃ b off, a = ⟨b, off, Option.none⟩ ∧ b < w.heap.size := fun hn => by
          obtain ⟨b, off, spot⟩ := a
          obtain ⟨cs0, hc0, _, hv0⟩ := hp 0 hn
          have hcell := hv0 0 (cs0[0]'(by omega)) (List.getElem?_eq_getElem _)
          have hspot := World.cell?_spot hcell
          have hlt := World.block_lt_of_cell? w _ hcell
          simp only [Nat.zero_mul, Nat.add_zero, Addr.add, if_true] at hspot hlt
          subst hspot
          exact ⟨b, off, rfl, hlt⟩
        refine ⟨some a, cap, l, rfl, exS.deeper (d := f) ⟨⟨by have := hm; simp only [maxLen] at this; omega, fun hn => ?_⟩, fun hn a' ha => ?_⟩ (by omega)⟩
        · obtain ⟨b, off, rfl, _⟩ := key hn
          refine ⟨b, off, rfl, fun k hk => ?_⟩
          obtain ⟨cs, h1, h2, h3⟩ := hp k hk
          refine ⟨cs, h1, h2, fun j v hj => ?_⟩
          have := h3 j v hj
          by_cases e : k * 4 + j = 0
          · have e1 : k * 4 = 0 := by omega
            have e2 : j = 0 := by omega
            simpa [Addr.add, e1, e2] using this
          · rw [Addr.add, if_neg e] at this
            simpa [Nat.add_assoc] using this
        · obtain ⟨b, off, rfl, hb⟩ := key hn
          cases ha
          exact ⟨Nat.zero_le _, hb⟩
def ExW (w : World) (t : Ex) (cs : List Value) : Prop := ∃ d, exR d 0 w.heap.size w t cs
theorem opens_lExpr : Opens Try.prog 48 4 ExW := ⟨fun enc w base spare held fuel cs x h => by
  obtain ⟨h1, t, h2⟩ := (ex_opened enc w base spare held fuel).1 cs x h
  exact ⟨h1, t, fuel, h2⟩⟩
end Go.Proofs.Ytodjokdaofefdaa
