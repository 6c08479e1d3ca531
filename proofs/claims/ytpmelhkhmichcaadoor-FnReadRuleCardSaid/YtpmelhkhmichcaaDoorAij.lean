/- Kinds and lists: a slice of a kind reads as a list; a list's row is of a kind. -/
import Derived.Test.YtpmelhkhmichcaaDoorAig
namespace Go.Proofs.YtpmelhkhmichcaaDoor
set_option linter.unusedSimpArgs false
set_option linter.unusedVariables false
open Go.RowKit

theorem RowK.of_at {w : World} : ∀ {ks : List VK} {cs : List Value}, cs.length = ks.length → (∀ (f : Nat) k u, ks[f]? = some k → cs[f]? = some u → k w u) → RowK ks w cs
  | [], cs, hl, _ => List.eq_nil_of_length_eq_zero hl
  | k :: ks, [], hl, _ => by simp at hl
  | k :: ks, u :: cs, hl, h => ⟨u, cs, rfl, h 0 k u rfl rfl, RowK.of_at (by simpa using hl) (fun f k' u' hk hu => h (f + 1) k' u' (by simpa using hk) (by simpa using hu))⟩
section
variable {α : Type} {R : World → α → List Value → Prop} {P : α → Prop} {w : World}
theorem typL_list {ks : List VK} (hdec : ∀ cs, RowK ks w cs → ∃ a, P a ∧ R w a cs) {xs : List Value} : ∀ n, TypL ks w n xs → n * ks.length ≤ xs.length → ∃ l : List α, l.length = n ∧ (∀ a ∈ l, P a) ∧ ∀ k (hk : k < l.length), ∃ cs : List Value, cs.length = ks.length ∧ R w l[k] cs ∧ ∀ j v, cs[j]? = some v → xs[k * ks.length + j]? = some v
  | 0, _, _ => ⟨[], rfl, by simp, by simp⟩
  | n + 1, h, hl => by
    rw [Nat.succ_mul] at hl
    obtain ⟨l, h1, h2, h3⟩ := typL_list hdec n (fun q f k u hq hk hu => h q f k u (by omega) hk hu) (by omega)
    have hat : ∀ j, j < ks.length → ((xs.drop (n * ks.length)).take ks.length)[j]? = xs[n * ks.length + j]? := fun j hj => by
      rw [List.getElem?_take_of_lt hj, List.getElem?_drop]
    have hrow : RowK ks w ((xs.drop (n * ks.length)).take ks.length) := RowK.of_at (by simp; omega) (fun f k u hk hu => by
      have hf := (List.getElem?_eq_some_iff.1 hk).1
      rw [hat f hf] at hu
      exact h n f k u (by omega) hk hu)
    obtain ⟨a, ha, hR⟩ := hdec _ hrow
    refine ⟨l ++ [a], by simp [h1], fun b hb => ?_, fun k hk => ?_⟩
    · rcases List.mem_append.1 hb with hb | hb
      · exact h2 b hb
      · rw [List.mem_singleton.1 hb]; exact ha
    · by_cases e : k < l.length
      · rw [List.getElem_append_left e]; exact h3 k e
      · obtain rfl : k = n := by simp at hk; omega
        have hla : (l ++ [a])[k] = a := by rw [List.getElem_append_right (by omega)]; simp
        refine ⟨_, hrow.length, by rw [hla]; exact hR, fun j v hv => ?_⟩
        have hj : j < ks.length := by
          have := (List.getElem?_eq_some_iff.1 hv).1
          simp at this; omega
        rw [hat j hj] at hv
        exact hv
theorem slK_rd {B br M sz : Nat} {e : TypeId} {ks : List VK} {v : Value} (hsz : ks.length = sz) (hdec : ∀ cs, RowK ks w cs → ∃ a, P a ∧ R w a cs) (hM : M ≤ 9223372036854775807) (h : SlK B br e ks M w v) :
    ∃ (l : List α) (A : Option Addr) (q : Nat), v = .slice A l.length q ∧ l.length ≤ M ∧ (∀ a ∈ l, P a) ∧ RdL R sz w A l ∧ l.length ≤ q ∧ q ≤ 9223372036854775807 ∧ (∀ a, A = some a → a.block < w.heap.size ∧ a.spot = Option.none) ∧ (A = Option.none → q = 0) := by
  subst hsz
  rcases h with rfl | ⟨g, o, n, q, rfl, h1, h2, h3, h4⟩
  · exact ⟨[], Option.none, 0, rfl, Nat.zero_le _, by simp, RdL.nil _, Nat.le_refl _, by omega, (fun a ha => nomatch ha), fun _ => rfl⟩
  · obtain ⟨xs, e1, e2, e3⟩ := h4.list (n := n) (Nat.le_refl _) (by omega)
    obtain ⟨l, f1, f2, f3⟩ := typL_list hdec n e2 (by omega)
    subst f1
    refine ⟨l, _, q, rfl, h1, f2, ⟨by omega, fun hn => ⟨g, o * ks.length, rfl, fun k hk => ?_⟩⟩, h2, h3, fun a ha => ?_, fun h => by cases h⟩
    · obtain ⟨cs, g1, g2, g3⟩ := f3 k hk
      exact ⟨cs, g1, g2, fun j v hv => by rw [Nat.add_assoc]; exact e3 _ v (g3 j v hv)⟩
    · cases ha
      obtain ⟨_, _, cs, hb, _⟩ := h4
      exact ⟨(Array.getElem?_eq_some_iff.1 hb).1, rfl⟩
theorem sl_rd {c : Ctx} {tab : Tab} {i lo hi : Nat} {v : Value} (ht : okTab tab = true) (hdec : ∀ cs, RowK ((shp tab i).2.map (cden c tab)) w cs → ∃ a, P a ∧ R w a cs) (hM : hi ≤ 9223372036854775807) (h : cden c tab (.sl i lo hi) w v) :
    ∃ (l : List α) (A : Option Addr) (q : Nat), v = .slice A l.length q ∧ lo ≤ l.length ∧ l.length ≤ hi ∧ (∀ a ∈ l, P a) ∧ RdL R (shp tab i).2.length w A l ∧ l.length ≤ q ∧ q ≤ 9223372036854775807 ∧ (∀ a, A = some a → a.block < w.heap.size ∧ a.spot = Option.none) ∧ (A = Option.none → q = 0) := by
  obtain ⟨hs, A', n', q', e, hlo⟩ := h
  rw [(tab_den (c := c) ht i).1] at hs
  obtain ⟨l, A, q, e2, h1, h2, h3, h4, h5, h6, h7⟩ := slK_rd (R := R) (P := P) (sz := (shp tab i).2.length) (by simp) hdec hM hs
  rw [e2] at e
  cases e
  exact ⟨l, _, _, e2, hlo, h1, h2, h3, h4, h5, h6, h7⟩
end
/-- A row of one's own is of a kind. -/
theorem sl_own {c : Ctx} {tab : Tab} {i n M B0 sz : Nat} {e : TypeId} {w : World} {v : Value} {xs : List Value} (ht : okTab tab = true) (ho : w.ownsRow B0 e sz v n xs) (hT : (shp tab i).1 = e) (hk : (shp tab i).2.length = sz) (hsz : 0 < sz) (hB : c.B ≤ B0) (hbr : c.br < B0) (hn : n ≤ M)
    (hcells : TypL ((shp tab i).2.map (cden c tab)) w n xs) : cden c tab (.sl i 0 M) w v := by
  have hd := (tab_den (c := c) ht i).1
  have h1 : SlK c.B c.br (tabOf c tab i).1 (tabOf c tab i).2 M w v := by
    rw [hd]
    simp only
    rw [hT]
    exact SlK.of_own ho (by simpa using hk) hB hbr hn hcells
  refine ⟨h1, ?_⟩
  obtain ⟨A, n', q', rfl, _⟩ := h1.shape
  exact ⟨A, n', q', rfl, Nat.zero_le _⟩
theorem chunks_typ {α : Type} {R : α → List Value → Prop} {sz : Nat} {ks : List VK} {w : World} (hl : ks.length = sz) : ∀ {l : List α} {xs : List Value}, Chunks R sz l xs → (∀ a ∈ l, ∀ cs, R a cs → RowK ks w cs) → TypL ks w l.length xs
  | [], _, _, _ => fun q f k u hq => by simp at hq
  | a :: l, xs, ⟨cs, r, e, h1, h2, h3⟩, h => by
    subst e
    have := ((h a (by simp) cs h2).typ).append (by omega) (chunks_typ hl h3 (fun b hb => h b (by simp [hb])))
    rw [List.length_cons, Nat.add_comm]
    exact this
theorem flatMap_chunks {α : Type} {enc : α → List Value} {sz : Nat} (henc : ∀ a, (enc a).length = sz) : ∀ l : List α, Chunks (fun a cs => cs = enc a) sz l (l.flatMap enc)
  | [] => rfl
  | a :: l => ⟨enc a, l.flatMap enc, by simp, henc a, rfl, flatMap_chunks henc l⟩
end Go.Proofs.YtpmelhkhmichcaaDoor
