/- Kinds of values: what the operations of a region make of them. -/
import Derived.Test.YtpmelhkhmichcaaDoorTyq
import Derived.Test.YtpmelhkhmichcaaDoorTyr
namespace Go.Proofs.YtpmelhkhmichcaaDoor
set_option linter.unusedSimpArgs false
set_option linter.unusedVariables false
open Go.RowKit

/-- Cell by cell. -/
def RowK : List VK → World → List Value → Prop
  | [], _, cs => cs = []
  | k :: ks, w, cs => ∃ c r, cs = c :: r ∧ k w c ∧ RowK ks w r
def AggK (ks : List VK) : VK := fun w v => ∃ cs : List Value, v = .agg cs.toArray ∧ RowK ks w cs
def TupK (ks : List VK) : VK := fun w v => ∃ cs : List Value, v = .tuple cs.toArray ∧ RowK ks w cs
def RowsK (ks : List VK) (w : World) : List (List Value) → Prop
  | [] => True
  | r :: rs => RowK ks w r ∧ RowsK ks w rs
theorem all_nil {P : VK → Prop} : ∀ k ∈ ([] : List VK), P k := fun _ h => absurd h (by simp)
theorem all_cons {P : VK → Prop} {k : VK} {ks : List VK} (h : P k) (h2 : ∀ k ∈ ks, P k) : ∀ x ∈ k :: ks, P x := fun x hx => by
  rcases List.mem_cons.1 hx with rfl | hx
  · exact h
  · exact h2 x hx
section
variable {B br : Nat} {S : TypeId → Bool} {sh : TypeId → List VK} {w w' : World} {v : Value} {g n m t : Nat} {e : TypeId} {ks : List VK}
theorem RowK.rel (hks : ∀ k ∈ ks, StabK B br S sh k) (hr : RelK B br S sh w w') : ∀ {cs : List Value}, RowK ks w cs → RowK ks w' cs := by
  induction ks with
  | nil => exact fun h => h
  | cons k ks ih =>
    rintro cs ⟨c, r, rfl, h1, h2⟩
    exact ⟨c, r, rfl, hks k (by simp) _ _ _ hr h1, ih (fun k hk => hks k (by simp [hk])) h2⟩
theorem stab_agg (hks : ∀ k ∈ ks, StabK B br S sh k) : StabK B br S sh (AggK ks) := fun _ _ _ hr ⟨cs, h1, h2⟩ => ⟨cs, h1, h2.rel hks hr⟩
theorem stab_tup (hks : ∀ k ∈ ks, StabK B br S sh k) : StabK B br S sh (TupK ks) := fun _ _ _ hr ⟨cs, h1, h2⟩ => ⟨cs, h1, h2.rel hks hr⟩
theorem RowK.length : ∀ {ks : List VK} {cs : List Value}, RowK ks w cs → cs.length = ks.length
  | [], cs, h => by rw [show cs = [] from h]; rfl
  | k :: ks, cs, ⟨c, r, h, _, h2⟩ => by rw [h, List.length_cons, List.length_cons, h2.length]
theorem RowK.at : ∀ {ks : List VK} {cs : List Value}, RowK ks w cs → ∀ (f : Nat) (k : VK) (u : Value), ks[f]? = some k → cs[f]? = some u → k w u
  | [], _, _, f, k, u, h, _ => by simp at h
  | k0 :: ks, cs, ⟨c, r, e, h1, h2⟩, f, k, u, hk, hu => by
    subst e
    cases f with
    | zero => simp at hk hu; subst hk; subst hu; exact h1
    | succ f => exact h2.at f k u (by simpa using hk) (by simpa using hu)
theorem RowsK.typ {rs : List (List Value)} (h : RowsK ks w rs) : TypL ks w rs.length rs.flatten := by
  induction rs with
  | nil => intro q f k u hq; simp at hq
  | cons r rs ih =>
    intro q f k u hq hk hu
    have hf : f < ks.length := (List.getElem?_eq_some_iff.1 hk).1
    have hl := h.1.length
    cases q with
    | zero =>
      rw [Nat.zero_mul, Nat.zero_add, List.flatten_cons, List.getElem?_append_left (by omega)] at hu
      exact h.1.at f k u hk hu
    | succ q =>
      rw [List.flatten_cons, List.getElem?_append_right (by rw [hl, Nat.succ_mul]; omega), hl, Nat.succ_mul, show q * ks.length + ks.length + f - ks.length = q * ks.length + f by omega] at hu
      exact ih h.2 q f k u (by simpa using hq) hk hu
theorem RowsK.length {rs : List (List Value)} (h : RowsK ks w rs) : rs.flatten.length = rs.length * ks.length := by
  induction rs with
  | nil => simp
  | cons r rs ih => rw [List.flatten_cons, List.length_append, ih h.2, h.1.length, List.length_cons, Nat.succ_mul]; omega
/-- A slice that is written out. -/
theorem lit_new {cs : Array Value} (rs : List (List Value)) (hB : B ≤ w.heap.size) (hbr : br < w.heap.size) (hcs : cs = rs.flatten.toArray) (hn : rs.length = n) (h : RowsK ks w rs) (hst : ∀ k ∈ ks, StabK B br (fun _ => false) (fun _ => []) k) :
    LitK B br e ks n (w.alloc (.cells cs e)) (.slice (some ⟨w.heap.size, 0, Option.none⟩) n n) := by
  subst hcs; subst hn
  refine ⟨_, rfl, BlkK.new hB hbr (by simp [h.length]) (fun q f k u hq hk hu => ?_)⟩
  exact hst k (List.mem_of_getElem? hk) _ _ _ (RelK.alloc w _) (h.typ q f k u hq hk (by simpa using hu))
/-- A variable. -/
theorem box_new {cs : Array Value} {r : List Value} (hB : B ≤ w.heap.size) (hbr : br < w.heap.size) (hcs : cs = r.toArray) (h : RowK ks w r) (hst : ∀ k ∈ ks, StabK B br (fun _ => false) (fun _ => []) k) :
    PtrK B br e ks (w.alloc (.cells cs e)) (.pointer (some ⟨w.heap.size, 0, Option.none⟩)) := by
  subst hcs
  refine ⟨w.heap.size, 0, by simp, BlkK.new hB hbr (by simp [h.length]) (fun q f k u hq hk hu => ?_)⟩
  obtain rfl : q = 0 := by omega
  exact hst k (List.mem_of_getElem? hk) _ _ _ (RelK.alloc w _) (h.at f k u hk (by simpa using hu))
theorem LitK.sl (h : LitK B br e ks n w v) (hn : n ≤ 1000000) : SlK B br e ks n w v := by
  obtain ⟨g, rfl, hb⟩ := h
  exact .inr ⟨g, 0, n, n, by simp, Nat.le_refl _, Nat.le_refl _, by omega, by simpa using hb⟩
theorem SlK.nil : SlK B br e ks m w (.slice Option.none 0 0) := .inl rfl
theorem SlK.shape (h : SlK B br e ks m w v) : ∃ A n c, v = .slice A n c ∧ n ≤ m ∧ n ≤ c ∧ c ≤ 9223372036854775807 ∧ (0 < n → ∃ g o, A = some ⟨g, o * ks.length, Option.none⟩ ∧ BlkK B br e ks (o + n) (o + c) w g) := by
  rcases h with rfl | ⟨g, o, n, c, rfl, h1, h2, h3, h4⟩
  · exact ⟨_, 0, 0, rfl, Nat.zero_le _, Nat.le_refl _, by omega, fun h => absurd h (by omega)⟩
  · exact ⟨_, n, c, rfl, h1, h2, h3, fun _ => ⟨g, o, rfl, h4⟩⟩
/-- The address of an element. -/
theorem LitK.at (h : LitK B br e ks n w v) {q : Nat} (hq : q < n) : ∃ g, v = .slice (some ⟨g, 0, Option.none⟩) n n ∧ BlkK B br e ks (q + 1) (q + 1) w g := by
  obtain ⟨g, rfl, hb⟩ := h
  exact ⟨g, rfl, hb.le (by omega) (by omega)⟩
end
end Go.Proofs.YtpmelhkhmichcaaDoor
