/- Arguments, opened: what the reading of a value of a type gives for the walks; and the last step of a law. -/
import Derived.Test.YtodjokdaofefdaaGreatQ1
import Derived.ProofKit
import Derived.OpenShut
import Derived.ShutString
import Derived.ChangeOld
import Derived.Deep.Slices
import Derived.Test.YtodjokdaofefdaaGreatQ21
namespace Go.Proofs.YtodjokdaofefdaaGreat
set_option linter.unusedSimpArgs false
set_option linter.unusedVariables false
open Go.RowKit Go.ChangeShapes Go.WideShapes Go.ChangeAt

/-- Whatever reads as a value of type T stands for some a of the type α, in the sense of R. -/
structure Opens {α : Type} (P : Program) (T : TypeId) (sz : Nat) (R : World → α → List Value → Prop) : Prop where
  out : ∀ {H : Type} (enc : TypeId × Value → H) (w : World) (base : Nat) (spare : Nat → Bool) (held : Bool) (fuel : Nat) (cs : List Value) (x : DataW H × List MemPlace),
    DataW.trod enc P w base spare held fuel T cs = some x → cs.length = sz ∧ ∃ a : α, R w a cs

theorem Opens.map {α β : Type} {P : Program} {T : TypeId} {sz : Nat} {R : World → α → List Value → Prop} {R' : World → β → List Value → Prop} (h : Opens P T sz R) (f : α → β) (hf : ∀ w a cs, R w a cs → R' w (f a) cs) : Opens P T sz R' :=
  ⟨fun enc w base spare held fuel cs x hx => let ⟨h1, a, h2⟩ := h.out enc w base spare held fuel cs x hx; ⟨h1, f a, hf _ _ _ h2⟩⟩

def IntR (k : IntKind) : World → Int → List Value → Prop := fun _ n cs => cs = [.int k n] ∧ k.min ≤ n ∧ n ≤ k.max
def SliceR {α : Type} (R : World → α → List Value → Prop) (sz : Nat) : World → List α → List Value → Prop := fun w l cs => ∃ A c, cs = [.slice A l.length c] ∧ RdL R sz w A l

theorem opens_int {P : Program} {T : TypeId} {k : IntKind} (hT : P.underlying T = some (.int k)) : Opens P T 1 (IntR k) := ⟨fun _ _ _ _ _ _ _ _ h => by
  obtain ⟨n, rfl, _, hw⟩ := DataW.trod_int hT h
  simp only [Lit.wf, Bool.and_eq_true, decide_eq_true_eq] at hw
  exact ⟨rfl, n, rfl, hw.1, hw.2⟩⟩
theorem choose_list {α : Type} {p : Nat → α → Prop} : ∀ n : Nat, (∀ i, i < n → ∃ a, p i a) → ∃ l : List α, l.length = n ∧ ∀ i (h : i < l.length), p i l[i]
  | 0, _ => ⟨[], rfl, fun i h => absurd h (by simp)⟩
  | n + 1, h => by
    obtain ⟨l, hl, hp⟩ := choose_list n (fun i hi => h i (by omega))
    obtain ⟨a, ha⟩ := h n (by omega)
    refine ⟨l ++ [a], by simp [hl], fun i hi => ?_⟩
    simp only [List.length_append, List.length_singleton] at hi
    by_cases e : i < l.length
    · rw [List.getElem_append_left e]; exact hp i e
    · obtain rfl : i = n := by omega
      rw [List.getElem_append_right (by omega)]
      simpa [hl] using ha
theorem opens_slice {α : Type} {P : Program} {T E : TypeId} {sz : Nat} {R : World → α → List Value → Prop} (hT : P.underlying T = some (.slice E)) (hE : Opens P E sz R) (hsz : P.cellsOf E = sz) (hpos : 0 < sz) : Opens P T 1 (SliceR R sz) := ⟨fun enc w base spare held fuel cs x h => by
  rcases Go.Deep.open_slice hT h with ⟨rfl, _⟩ | ⟨a, len, cap, m, n, D, Pl, rfl, _, hl, hm, hmm, _, hi⟩
  · exact ⟨rfl, [], .none, 0, rfl, RdL.nil _⟩
  · refine ⟨rfl, ?_⟩
    have hlm : len ≤ m := by rw [hmm]; split <;> omega
    obtain ⟨l, hll, hp⟩ := choose_list (p := fun i a0 => ∃ cs : List Value, cs.length = sz ∧ R w a0 cs ∧ ∀ j v, cs[j]? = some v → w.cell? (a.add (i * sz + j)) = some v) len (fun i hlt => by
      obtain ⟨cs', h1, h2⟩ := hi i (by omega)
      obtain ⟨hcl, a0, hR⟩ := hE.out enc w base spare held n cs' _ h2
      obtain ⟨_, _, hat⟩ := World.cells?_some h1
      refine ⟨a0, cs', hcl, hR, fun j v hj => ?_⟩
      have hjl : j < sz := by rw [← hcl]; exact (List.getElem?_eq_some_iff.1 hj).1
      have := hat j (by omega)
      rw [hsz, Go.Deep.add_add] at this
      rw [this, hj])
    subst hll
    refine ⟨l, _, _, rfl, by have := hm; simp only [maxLen] at this; omega, fun hn => ?_⟩
    obtain ⟨b, off, spot⟩ := a
    obtain ⟨cs0, hc0, _, hv0⟩ := hp 0 hn
    have hspot := World.cell?_spot (hv0 0 (cs0[0]'(by omega)) (List.getElem?_eq_getElem _))
    simp only [Nat.zero_mul, Nat.add_zero, Addr.add, if_true] at hspot
    subst hspot
    refine ⟨b, off, rfl, fun k hk => ?_⟩
    obtain ⟨cs, h1, h2, h3⟩ := hp k hk
    refine ⟨cs, h1, h2, fun j v hj => ?_⟩
    have := h3 j v hj
    by_cases e : k * sz + j = 0
    · have e1 : k * sz = 0 := by omega
      have e2 : j = 0 := by omega
      simpa [Addr.add, e1, e2] using this
    · rw [Addr.add, if_neg e] at this
      simpa [Nat.add_assoc] using this⟩

structure OpensFrom {α : Type} (P : Program) (fs : Array Field) (i off sz : Nat) (R : World → α → List Value → Prop) : Prop where
  out : ∀ {H : Type} (enc : TypeId × Value → H) (w : World) (base : Nat) (spare : Nat → Bool) (held : Bool) (n : Nat) (cs : List Value) (xs : List (DataW H × List MemPlace)),
    (∀ (i : Nat) (f : Field), fs[i]? = some f → DataW.trod enc P w base spare held n f.type ((cs.drop f.offset).take (P.cellsOf f.type)) = xs[i]?) → xs.length = fs.size → cs.length = off + sz → ∃ a, R w a (cs.drop off)
/-- A parameter, opened. -/
theorem open_slice_arg {α : Type} {H : Type} {enc : TypeId × Value → H} {P : Program} {T : TypeId} {R : World → α → List Value → Prop} {sz : Nat} {w : World} {r : Reach} {b0 base : Nat} {spare : Nat → Bool} {held : Bool} {v : Value} {d : DataW H} {p : List MemPlace} {E : TypeId} (hT : P.underlying T = some (.slice E))
    (ho : Opens P T 1 (SliceR R sz)) (hv : Value.okWide P w r b0 T v) (h : DataW.Trod enc P w base spare held T v d p) : ∃ (A : Option Addr) (l : List α) (c : Nat), v = .slice A l.length c ∧ RdL R sz w A l := by
  obtain ⟨A, n, c, rfl⟩ := okWide_slice hT hv
  obtain ⟨fuel, hf⟩ := h
  obtain ⟨_, l, A', c', hcs, hl⟩ := ho.out enc w base spare held fuel _ _ hf
  simp only [Value.cells, List.cons.injEq, Value.slice.injEq, and_true] at hcs
  obtain ⟨rfl, rfl, rfl⟩ := hcs
  exact ⟨_, l, _, rfl, hl⟩
theorem trod_places_lt {H : Type} {enc : TypeId × Value → H} {P : Program} {w : World} {base : Nat} {spare : Nat → Bool} {held : Bool} {T : TypeId} {v : Value} {d : DataW H} {p : List MemPlace} (h : DataW.Trod enc P w base spare held T v d p) : ∀ x ∈ p, x.block < w.heap.size := by
  obtain ⟨m, hm⟩ := h
  exact DataW.trod_lt m _ _ _ hm
theorem Tryz.own : ownKnob Tryz.prog.godebug = none := by kernel_rfl
theorem Tryz.laidOut : laidOutB Tryz.prog = true := by kernel_rfl
end Go.Proofs.YtodjokdaofefdaaGreat
/- A code, as an argument of a law; and what draws leave. -/
namespace Go.Proofs.YtodjokdaofefdaaGreat
set_option linter.unusedSimpArgs false
set_option linter.unusedVariables false
open Go.RowKit Go.ChangeShapes Go.WideShapes Go.ChangeAt

theorem open_code_arg {H : Type} {enc : TypeId × Value → H} {P : Program} {T : TypeId} {w : World} {r : Reach} {b0 base : Nat} {spare : Nat → Bool} {held : Bool} {v : Value} {d : DataW H} {p : List MemPlace} {E : TypeId} (hT : P.underlying T = some (.slice E)) (hE : P.underlying E = some (.int .u8)) (hc : P.cellsOf E = 1)
    (hv : Value.okWide P w r b0 T v) (h : DataW.Trod enc P w base spare held T v d p) : ∃ (A : Option Addr) (l : List Int) (c : Nat), v = .slice A l.length c ∧ CodeR w w.heap.size A l ∧ l.length ≤ c := by
  obtain ⟨A, l, c, rfl, hr⟩ := open_slice_arg hT (opens_slice hT (opens_int hE) hc (by decide)) hv h
  refine ⟨A, l, c, rfl, ⟨hr.1, fun hn => ?_⟩, ?_⟩
  · obtain ⟨b, off, e, hk⟩ := hr.2 hn
    obtain ⟨cs0, hl0, ⟨rfl, _, _⟩, h30⟩ := hk 0 hn
    refine ⟨b, off, e, by simpa using block_lt_of_cell (h30 0 _ rfl), fun k hk' => ?_⟩
    obtain ⟨cs, _, ⟨rfl, h1, h2⟩, h3⟩ := hk k hk'
    refine ⟨l[k], ⟨?_, ?_⟩, ?_⟩
    · exact h1
    · exact h2
    · simpa using h3 0 _ rfl
  · obtain ⟨fuel, hf⟩ := h
    rcases Go.Deep.open_slice hT hf with ⟨h0, _⟩ | ⟨a, len, cap, m, n, D, Pl, h0, _, hl, _⟩
    · simp only [Value.cells, List.cons.injEq, Value.slice.injEq, and_true] at h0
      omega
    · simp only [Value.cells, List.cons.injEq, Value.slice.injEq, and_true] at h0
      omega
end Go.Proofs.YtodjokdaofefdaaGreat
