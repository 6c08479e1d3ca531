/- Arguments, opened: what the reading of a value of a type gives for the walks; and the last step of a law. -/
import Derived.Test.YtodjokdaofefdaaQ1
import Derived.ProofKit
import Derived.OpenShut
import Derived.ShutString
import Derived.ChangeOld
import Derived.Deep.Slices
import Derived.Test.YtodjokdaofefdaaQ2
namespace Go.Proofs.Ytodjokdaofefdaa
set_option linter.unusedSimpArgs false
set_option linter.unusedVariables false
open Go.RowKit Go.ChangeShapes Go.WideShapes Go.ChangeAt

/-- Whatever reads as a value of type T stands for some a of the type α, in the sense of R. -/
structure Opens {α : Type} (P : Program) (T : TypeId) (sz : Nat) (R : World → α → List Value → Prop) : Prop where
  out : ∀ {H : Type} (enc : TypeId × Value → H) (w : World) (base : Nat) (spare : Nat → Bool) (held : Bool) (fuel : Nat) (cs : List Value) (x : DataW H × List MemPlace),
    DataW.trod enc P w base spare held fuel T cs = some x → cs.length = sz ∧ ∃ a : α, R w a cs

theorem Opens.map {α β : Type} {P : Program} {T : TypeId} {sz : Nat} {R : World → α → List Value → Prop} {R' : World → β → List Value → Prop} (h : Opens P T sz R) (f : α → β) (hf : ∀ w a cs, R w a cs → R' w (f a) cs) : Opens P T sz R' :=
  ⟨fun enc w base spare held fuel cs x hx => let ⟨h1, a, h2⟩ := h.out enc w base spare held fuel cs x hx; ⟨h1, f a, hf _ _ _ h2⟩⟩

def IntR (k : IntKind) : World → Int → List Value → Prop := fun _ n cs => cs = [.int k n] ∧ k.min ≤ n ∧ n ≤ k.max
def BoolR : World → Bool → List Value → Prop := fun _ b cs => cs = [.bool b]
def StrR : World → ByteArray → List Value → Prop := fun _ s cs => cs = [.string s] ∧ s.size ≤ 9223372036854775807
def SliceR {α : Type} (R : World → α → List Value → Prop) (sz : Nat) : World → List α → List Value → Prop := fun w l cs => ∃ A c, cs = [.slice A l.length c] ∧ RdL R sz w A l

theorem opens_int {P : Program} {T : TypeId} {k : IntKind} (hT : P.underlying T = some (.int k)) : Opens P T 1 (IntR k) := ⟨fun _ _ _ _ _ _ _ _ h => by
  obtain ⟨n, rfl, _, hw⟩ := DataW.trod_int hT h
  simp only [Lit.wf, Bool.and_eq_true, decide_eq_true_eq] at hw
  exact ⟨rfl, n, rfl, hw.1, hw.2⟩⟩
theorem opens_bool {P : Program} {T : TypeId} (hT : P.underlying T = some .bool) : Opens P T 1 BoolR := ⟨fun _ _ _ _ _ _ _ _ h => by
  obtain ⟨b, rfl, _⟩ := DataW.trod_bool hT h
  exact ⟨rfl, b, rfl⟩⟩
theorem opens_str {P : Program} {T : TypeId} (hT : P.underlying T = some .string) : Opens P T 1 StrR := ⟨fun _ _ _ _ _ _ _ _ h => by
  obtain ⟨s, rfl, _, hs⟩ := DataW.trod_string hT h
  exact ⟨rfl, s, rfl, by simpa [maxLen] using hs⟩⟩
theorem choose_list {α : Type} {p : Nat → α → Prop} : ∀ n : Nat, (∀ i, i < n → ∃ a, p i a) → ∃ l : List α, l.length = n ∧ ∀ i (h : i < l.length), p i l[i]
  | 0, _ => ⟨[], rfl, fun i h => absurd h (by simp)⟩
  | n + 1, h => by
    obtain ⟨l, hl, hp⟩ := choose_list n (fun i hi => h i (by omega))
    obtain ⟨a, ha⟩ := h n (by omega)
    refine ⟨l ++ [a], by simp [hl], fun i hi => ?_⟩
    simp only [List.length_append, List.length_singleton] at hi
    by_cases e : i < l.length
    · rw [List.getElem_append_left e]; exact hp i e
    · obtain rfl : i = n := by omega
      rw [List.getElem_append_right (by omega)]
      simpa [hl] using ha
theorem opens_slice {α : Type} {P : Program} {T E : TypeId} {sz : Nat} {R : World → α → List Value → Prop} (hT : P.underlying T = some (.slice E)) (hE : Opens P E sz R) (hsz : P.cellsOf E = sz) (hpos : 0 < sz) : Opens P T 1 (SliceR R sz) := ⟨fun enc w base spare held fuel cs x h => by
  rcases Go.Deep.open_slice hT h with ⟨rfl, _⟩ | ⟨a, len, cap, m, n, D, Pl, rfl, _, hl, hm, hmm, _, hi⟩
  · exact ⟨rfl, [], .none, 0, rfl, RdL.nil _⟩
  · refine ⟨rfl, ?_⟩
    have hlm : len ≤ m := by rw [hmm]; split <;> omega
    obtain ⟨l, hll, hp⟩ := choose_list (p := fun i a0 => ∃ cs : List Value, cs.length = sz ∧ R w a0 cs ∧ ∀ j v, cs[j]? = some v → w.cell? (a.add (i * sz + j)) = some v) len (fun i hlt => by
      obtain ⟨cs', h1, h2⟩ := hi i (by omega)
      obtain ⟨hcl, a0, hR⟩ := hE.out enc w base spare held n cs' _ h2
      obtain ⟨_, _, hat⟩ := World.cells?_some h1
      refine ⟨a0, cs', hcl, hR, fun j v hj => ?_⟩
      have hjl : j < sz := by rw [← hcl]; exact (List.getElem?_eq_some_iff.1 hj).1
      have := hat j (by omega)
      rw [hsz, Go.Deep.add_add] at this
      rw [this, hj])
    subst hll
    refine ⟨l, _, _, rfl, by have := hm; simp only [maxLen] at this; omega, fun hn => ?_⟩
    obtain ⟨b, off, spot⟩ := a
    obtain ⟨cs0, hc0, _, hv0⟩ := hp 0 hn
    have hspot := World.cell?_spot (hv0 0 (cs0[0]'(by omega)) (List.getElem?_eq_getElem _))
    simp only [Nat.zero_mul, Nat.add_zero, Addr.add, if_true] at hspot
    subst hspot
    refine ⟨b, off, rfl, fun k hk => ?_⟩
    obtain ⟨cs, h1, h2, h3⟩ := hp k hk
    refine ⟨cs, h1, h2, fun j v hj => ?_⟩
    have := h3 j v hj
    by_cases e : k * sz + j = 0
    · have e1 : k * sz = 0 := by omega
      have e2 : j = 0 := by omega
      simpa [Addr.add, e1, e2] using this
    · rw [Addr.add, if_neg e] at this
      simpa [Nat.add_assoc] using this⟩

/-- A struct: its fields' cells stand one behind the other. -/
theorem opens_field {α : Type} {H : Type} {P : Program} {enc : TypeId × Value → H} {w : World} {base : Nat} {spare : Nat → Bool} {held : Bool} {n sz : Nat} {cs : List Value} {xs : List (DataW H × List MemPlace)} {fs : Array Field} {R : World → α → List Value → Prop}
    (hg : ∀ (i : Nat) (f : Field), fs[i]? = some f → DataW.trod enc P w base spare held n f.type ((cs.drop f.offset).take (P.cellsOf f.type)) = xs[i]?) (hl : xs.length = fs.size) (i : Nat) (f : Field) (hi : fs[i]? = some f) (ho : Opens P f.type sz R) (hs : P.cellsOf f.type = sz) :
    ∃ a, ((cs.drop f.offset).take sz).length = sz ∧ R w a ((cs.drop f.offset).take sz) := by
  have h := hg i f hi
  have hlt : i < xs.length := by rw [hl]; exact (Array.getElem?_eq_some_iff.1 hi).1
  rw [List.getElem?_eq_getElem hlt, hs] at h
  obtain ⟨h1, a, h2⟩ := ho.out enc w base spare held n _ _ h
  exact ⟨a, h1, h2⟩
theorem cells_split (cs : List Value) (a b : Nat) : cs.drop a = (cs.drop a).take b ++ cs.drop (a + b) := by
  rw [← List.drop_drop, List.take_append_drop]
structure OpensFrom {α : Type} (P : Program) (fs : Array Field) (i off sz : Nat) (R : World → α → List Value → Prop) : Prop where
  out : ∀ {H : Type} (enc : TypeId × Value → H) (w : World) (base : Nat) (spare : Nat → Bool) (held : Bool) (n : Nat) (cs : List Value) (xs : List (DataW H × List MemPlace)),
    (∀ (i : Nat) (f : Field), fs[i]? = some f → DataW.trod enc P w base spare held n f.type ((cs.drop f.offset).take (P.cellsOf f.type)) = xs[i]?) → xs.length = fs.size → cs.length = off + sz → ∃ a, R w a (cs.drop off)
theorem from_nil {P : Program} {fs : Array Field} {i off : Nat} : OpensFrom P fs i off 0 (fun _ (_ : Unit) cs => cs = []) := ⟨fun _ _ _ _ _ _ cs _ _ _ hl => ⟨(), List.drop_eq_nil_of_le (by omega)⟩⟩
theorem from_cons {α β : Type} {P : Program} {fs : Array Field} {f : Field} {i off s0 s1 : Nat} {R0 : World → α → List Value → Prop} {R1 : World → β → List Value → Prop} (hi : fs[i]? = some f) (ho : f.offset = off) (h0 : Opens P f.type s0 R0) (k0 : P.cellsOf f.type = s0)
    (h1 : OpensFrom P fs (i + 1) (off + s0) s1 R1) : OpensFrom P fs i off (s0 + s1) (fun w (a : α × β) cs => ∃ c0 c1, cs = c0 ++ c1 ∧ R0 w a.1 c0 ∧ R1 w a.2 c1) := ⟨fun enc w base spare held n cs xs hg hx hl => by
  obtain ⟨a, _, ra⟩ := opens_field hg hx i f hi h0 k0
  obtain ⟨b, rb⟩ := h1.out enc w base spare held n cs xs hg hx (by omega)
  rw [ho] at ra
  exact ⟨(a, b), _, _, cells_split cs off s0, ra, rb⟩⟩
theorem opens_struct {α : Type} {P : Program} {T : TypeId} {fs : Array Field} {sz : Nat} {R : World → α → List Value → Prop} (hT : P.underlying T = some (.struct fs)) (hc : P.cellsOf T = sz) (h : OpensFrom P fs 0 0 sz R) : Opens P T sz R := ⟨fun enc w base spare held fuel cs x hx => by
  obtain ⟨xs, n, _, _, hl, hxl, hg⟩ := DataW.trod_struct hT hx
  obtain ⟨a, ra⟩ := h.out enc w base spare held n cs xs hg hxl (by omega)
  exact ⟨by omega, a, by simpa using ra⟩⟩

/-- A parameter, opened. -/
theorem open_slice_arg {α : Type} {H : Type} {enc : TypeId × Value → H} {P : Program} {T : TypeId} {R : World → α → List Value → Prop} {sz : Nat} {w : World} {r : Reach} {b0 base : Nat} {spare : Nat → Bool} {held : Bool} {v : Value} {d : DataW H} {p : List MemPlace} {E : TypeId} (hT : P.underlying T = some (.slice E))
    (ho : Opens P T 1 (SliceR R sz)) (hv : Value.okWide P w r b0 T v) (h : DataW.Trod enc P w base spare held T v d p) : ∃ (A : Option Addr) (l : List α) (c : Nat), v = .slice A l.length c ∧ RdL R sz w A l := by
  obtain ⟨A, n, c, rfl⟩ := okWide_slice hT hv
  obtain ⟨fuel, hf⟩ := h
  obtain ⟨_, l, A', c', hcs, hl⟩ := ho.out enc w base spare held fuel _ _ hf
  simp only [Value.cells, List.cons.injEq, Value.slice.injEq, and_true] at hcs
  obtain ⟨rfl, rfl, rfl⟩ := hcs
  exact ⟨_, l, _, rfl, hl⟩
theorem open_struct_arg {α : Type} {H : Type} {enc : TypeId × Value → H} {P : Program} {T : TypeId} {R : World → α → List Value → Prop} {sz : Nat} {w : World} {r : Reach} {b0 base : Nat} {spare : Nat → Bool} {held : Bool} {v : Value} {d : DataW H} {p : List MemPlace} {fs : Array Field} (hT : P.underlying T = some (.struct fs))
    (ho : Opens P T sz R) (hv : Value.okWide P w r b0 T v) (h : DataW.Trod enc P w base spare held T v d p) : ∃ (cs : List Value) (a : α), v = .agg cs.toArray ∧ cs.length = sz ∧ R w a cs := by
  obtain ⟨cs, rfl, _⟩ := okWide_struct hT hv
  obtain ⟨fuel, hf⟩ := h
  obtain ⟨h1, a, h2⟩ := ho.out enc w base spare held fuel _ _ hf
  exact ⟨cs.toList, a, by simp, by simpa [Value.cells] using h1, by simpa [Value.cells] using h2⟩
theorem trod_places_lt {H : Type} {enc : TypeId × Value → H} {P : Program} {w : World} {base : Nat} {spare : Nat → Bool} {held : Bool} {T : TypeId} {v : Value} {d : DataW H} {p : List MemPlace} (h : DataW.Trod enc P w base spare held T v d p) : ∀ x ∈ p, x.block < w.heap.size := by
  obtain ⟨m, hm⟩ := h
  exact DataW.trod_lt m _ _ _ hm
theorem Try.own : ownKnob Try.prog.godebug = none := by kernel_rfl
theorem Try.laidOut : laidOutB Try.prog = true := by kernel_rfl
end Go.Proofs.Ytodjokdaofefdaa
/- Expressions, as arguments. -/
namespace Go.Proofs.Ytodjokdaofefdaa
set_option linter.unusedSimpArgs false
set_option linter.unusedVariables false
open Go.RowKit Go.ChangeShapes Go.WideShapes Go.ChangeAt

theorem list4 : ∀ {cs : List Value}, cs.length = 4 → ∃ a b c d, cs = [a, b, c, d]
  | [a, b, c, d], _ => ⟨a, b, c, d, rfl⟩
theorem ex_opened {H : Type} (enc : TypeId × Value → H) (w : World) (base : Nat) (spare : Nat → Bool) (held : Bool) : ∀ f : Nat,
    (∀ (cs : List Value) (x : DataW H × List MemPlace), DataW.trod enc Try.prog w base spare held f 48 cs = some x → cs.length = 4 ∧ ∃ t, exR f 0 w.heap.size w t cs) ∧
    (∀ (cs : List Value) (x : DataW H × List MemPlace), DataW.trod enc Try.prog w base spare held f 46 cs = some x → ∃ A c l, cs = [.slice A l.length c] ∧ exS f 0 w.heap.size w A l) := by
  intro f
  induction f with
  | zero =>
    refine ⟨fun cs x h => ?_, fun cs x h => ?_⟩
    · simp [DataW.trod] at h
    · simp [DataW.trod] at h
  | succ f ih =>
    refine ⟨fun cs x h => ?_, fun cs x h => ?_⟩
    · obtain ⟨xs, n, hn, _, hl, hxl, hg⟩ := DataW.trod_struct Try.underlying48 h
      obtain rfl : f = n := by omega
      have hc4 : Try.prog.cellsOf 48 = 4 := by kernel_rfl
      have hl4 : cs.length = 4 := hl.trans hc4
      refine ⟨hl4, ?_⟩
      obtain ⟨k, _, rk, _⟩ := opens_field hg hxl 0 _ rfl (opens_int Try.underlying3) (by kernel_rfl)
      obtain ⟨m, _, rm, _⟩ := opens_field hg hxl 1 _ rfl (opens_int Try.underlying3) (by kernel_rfl)
      obtain ⟨s, _, rs, hs⟩ := opens_field hg hxl 2 _ rfl (opens_str Try.underlying9) (by kernel_rfl)
      have h3 : DataW.trod enc Try.prog w base spare held f 46 ((cs.drop 3).take (Try.prog.cellsOf 46)) = xs[3]? := hg 3 _ rfl
      rw [show Try.prog.cellsOf 46 = 1 by kernel_rfl] at h3
      rw [List.getElem?_eq_getElem (show 3 < xs.length by rw [hxl]; decide)] at h3
      obtain ⟨A, c, l, e, hS⟩ := ih.2 _ _ h3
      refine ⟨.nd k m s l, A, c, ?_, hS.1, hS.2, hs⟩
      obtain ⟨a0, a1, a2, a3, rfl⟩ := list4 hl4
      have q0 : [a0] = [.int .i64 k] := rk
      have q1 : [a1] = [.int .i64 m] := rm
      have q2 : [a2] = [.string s] := rs
      have q3 : [a3] = [.slice A l.length c] := e
      cases q0; cases q1; cases q2; cases q3
      rfl
    · rcases DataW.trod_slice Try.underlying46 h with ⟨rfl, _⟩ | ⟨a, len, cap, elems, rest, n, hn, rfl, _, _, hl, hm, hlen, hel, _, _⟩
      · exact ⟨Option.none, 0, [], rfl, exS.nil⟩
      · obtain rfl : f = n := by omega
        obtain ⟨l, hll, hp⟩ := choose_list (p := fun i a0 => ∃ cs : List Value, cs.length = 4 ∧ exR f 0 w.heap.size w a0 cs ∧ ∀ j v, cs[j]? = some v → w.cell? (a.add (i * 4 + j)) = some v) len (fun i hlt => by
          have h1 := hel i hlt
          rw [List.getElem?_eq_getElem (by omega)] at h1
          obtain ⟨cs', h2, h3⟩ := Option.bind_eq_some_iff.1 h1
          obtain ⟨hcl, a0, hR⟩ := ih.1 _ _ h3
          obtain ⟨_, _, hat⟩ := World.cells?_some h2
          refine ⟨a0, cs', hcl, hR, fun j v hj => ?_⟩
          have hjl : j < 4 := by rw [← hcl]; exact (List.getElem?_eq_some_iff.1 hj).1
          have := hat j (by omega)
          rw [show Try.prog.cellsOf 48 = 4 by kernel_rfl, Go.Deep.add_add] at this
          rw [this, hj])
        subst hll
        have key : 0 < l.length → ∃ b off, a = ⟨b, off, Option.none⟩ ∧ b < w.heap.size := fun hn => by
          obtain ⟨b, off, spot⟩ := a
          obtain ⟨cs0, hc0, _, hv0⟩ := hp 0 hn
          have hcell := hv0 0 (cs0[0]'(by omega)) (List.getElem?_eq_getElem _)
          have hspot := World.cell?_spot hcell
          have hlt := World.block_lt_of_cell? w _ hcell
          simp only [Nat.zero_mul, Nat.add_zero, Addr.add, if_true] at hspot hlt
          subst hspot
          exact ⟨b, off, rfl, hlt⟩
        refine ⟨some a, cap, l, rfl, exS.deeper (d := f) ⟨⟨by have := hm; simp only [maxLen] at this; omega, fun hn => ?_⟩, fun hn a' ha => ?_⟩ (by omega)⟩
        · obtain ⟨b, off, rfl, _⟩ := key hn
          refine ⟨b, off, rfl, fun k hk => ?_⟩
          obtain ⟨cs, h1, h2, h3⟩ := hp k hk
          refine ⟨cs, h1, h2, fun j v hj => ?_⟩
          have := h3 j v hj
          by_cases e : k * 4 + j = 0
          · have e1 : k * 4 = 0 := by omega
            have e2 : j = 0 := by omega
            simpa [Addr.add, e1, e2] using this
          · rw [Addr.add, if_neg e] at this
            simpa [Nat.add_assoc] using this
        · obtain ⟨b, off, rfl, hb⟩ := key hn
          cases ha
          exact ⟨Nat.zero_le _, hb⟩
def ExW (w : World) (t : Ex) (cs : List Value) : Prop := ∃ d, exR d 0 w.heap.size w t cs
theorem opens_lExpr : Opens Try.prog 48 4 ExW := ⟨fun enc w base spare held fuel cs x h => by
  obtain ⟨h1, t, h2⟩ := (ex_opened enc w base spare held fuel).1 cs x h
  exact ⟨h1, t, fuel, h2⟩⟩
end Go.Proofs.Ytodjokdaofefdaa
