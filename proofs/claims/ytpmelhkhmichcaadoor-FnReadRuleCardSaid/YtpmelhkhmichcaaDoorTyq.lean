/- Kinds of values: append. -/
import Derived.Test.YtpmelhkhmichcaaDoorTyp
import Derived.Test.YtpmelhkhmichcaaDoorKi3
namespace Go.Proofs.YtpmelhkhmichcaaDoor
set_option linter.unusedSimpArgs false
set_option linter.unusedVariables false
open Go.RowKit

/-- The cells of n elements, of their kinds. -/
def TypL (ks : List VK) (w : World) (n : Nat) (xs : List Value) : Prop := ∀ (q f : Nat) k u, q < n → ks[f]? = some k → xs[q * ks.length + f]? = some u → k w u
section
variable {B br : Nat} {S : TypeId → Bool} {sh : TypeId → List VK} {w w' : World} {v : Value} {g n m t : Nat} {e : TypeId} {ks : List VK} {xs ys : List Value}
theorem TypL.append (h : TypL ks w n xs) (hl : xs.length = n * ks.length) (h2 : TypL ks w m ys) : TypL ks w (n + m) (xs ++ ys) := by
  intro q f k u hq hk hu
  have hf : f < ks.length := (List.getElem?_eq_some_iff.1 hk).1
  by_cases hlt : q < n
  · have := Nat.mul_le_mul_right ks.length hlt
    rw [Nat.succ_mul] at this
    rw [List.getElem?_append_left (by omega)] at hu
    exact h q f k u hlt hk hu
  · obtain ⟨i, rfl⟩ : ∃ i, q = n + i := ⟨q - n, by omega⟩
    rw [List.getElem?_append_right (by rw [hl, Nat.add_mul]; omega), hl, Nat.add_mul, show n * ks.length + i * ks.length + f - n * ks.length = i * ks.length + f by omega] at hu
    exact h2 i f k u (by omega) hk hu
theorem TypL.one (hone : ∀ k ∈ ks, ∀ w u, k w u → u.oneCell' = true) (h : TypL ks w n xs) (hl : xs.length = n * ks.length) : ∀ u ∈ xs, u.oneCell' = true := by
  intro u hu
  obtain ⟨j, hj, rfl⟩ := List.getElem_of_mem hu
  rcases Nat.eq_zero_or_pos ks.length with h0 | h0
  · rw [h0, Nat.mul_zero] at hl; omega
  · have hm := Nat.mod_lt j h0
    have hk : ks[j % ks.length]? = some ks[j % ks.length] := List.getElem?_eq_getElem hm
    refine hone _ (List.getElem_mem hm) w _ (h (j / ks.length) (j % ks.length) _ _ ?_ hk ?_)
    · exact Nat.div_lt_of_lt_mul (by rw [Nat.mul_comm]; omega)
    · rw [Nat.div_add_mod' j ks.length]; exact List.getElem?_eq_getElem hj
theorem BlkK.list {o : Nat} (h : BlkK B br e ks t m w g) (hn : o + n ≤ t) (htm : t ≤ m) : ∃ xs : List Value, xs.length = n * ks.length ∧ TypL ks w n xs ∧ ∀ j u, xs[j]? = some u → w.cell? ⟨g, o * ks.length + j, Option.none⟩ = some u := by
  obtain ⟨h1, h2, cs, h3, h4, h5⟩ := h
  have hle := Nat.mul_le_mul_right ks.length (Nat.le_trans hn htm)
  rw [Nat.add_mul] at hle
  have hat : ∀ j, j < n * ks.length → ((cs.toList.drop (o * ks.length)).take (n * ks.length))[j]? = cs[o * ks.length + j]? := fun j hj => by
    rw [List.getElem?_take_of_lt hj, List.getElem?_drop]; simp
  refine ⟨(cs.toList.drop (o * ks.length)).take (n * ks.length), by simp; omega, fun q f k u hq hk hu => ?_, fun j u hu => ?_⟩
  · have hf : f < ks.length := (List.getElem?_eq_some_iff.1 hk).1
    have := Nat.mul_le_mul_right ks.length hq
    rw [Nat.succ_mul] at this
    rw [hat _ (by omega), show o * ks.length + (q * ks.length + f) = (o + q) * ks.length + f by rw [Nat.add_mul]; omega] at hu
    exact h5 (o + q) f k u (by omega) hk hu
  · have hj : j < n * ks.length := by
      have := (List.getElem?_eq_some_iff.1 hu).1
      simp at this; omega
    rw [hat j hj] at hu
    rw [cell_of_row w g _ cs e (0, 0) h3]; exact hu
/-- A row of one's own, of kinds. -/
theorem SlK.of_own {B0 sz M : Nat} (ho : w'.ownsRow B0 e sz v n xs) (hks : ks.length = sz) (hB : B ≤ B0) (hbr : br < B0) (hn : n ≤ M) (ht : TypL ks w' n xs) : SlK B br e ks M w' v := by
  subst hks
  rcases ho.2 with ⟨h1, _⟩ | ⟨g, cap, cur, h1, h2, h3, h4, h5, h6, h7⟩
  · exact .inl h1
  · refine .inr ⟨g, 0, n, cap, by rw [Nat.zero_mul]; exact h1, hn, h4, by simpa [maxLen] using h5, by omega, by omega, cur, h3, by rw [Nat.zero_add]; omega, fun q f k u hq hk hu => ?_⟩
    have hf : f < ks.length := (List.getElem?_eq_some_iff.1 hk).1
    have := Nat.mul_le_mul_right ks.length (show q + 1 ≤ n by omega)
    rw [Nat.succ_mul] at this
    refine ht q f k u (by omega) hk ?_
    rw [← h7, List.getElem?_take_of_lt (by omega)]
    simpa using hu
theorem TypL.rel (h : TypL ks w n xs) (hst : ∀ k ∈ ks, StabK B br S sh k) (hr : RelK B br S sh w w') : TypL ks w' n xs := fun q f k u hq hk hu => hst k (List.mem_of_getElem? hk) _ _ _ hr (h q f k u hq hk hu)
theorem SlK.mono {M M' : Nat} (h : SlK B br e ks M w v) (hM : M ≤ M') : SlK B br e ks M' w v := by
  rcases h with h | ⟨g, o, n, c, h1, h2, h3⟩
  · exact .inl h
  · exact .inr ⟨g, o, n, c, h1, by omega, h3⟩
/-- append. -/
theorem op_append_K {P : Program} {o : Oper} {a : Act} {K : Act → World → Prop} {Q : Exit → Act → World → Prop} (s x : Operand) (T : TypeId) (z : Value) (sz bytes : Nat)
    (ho : o.op = .call { callee := .builtin .append, args := #[s, x], argTypes := #[T, T] }) (ht : P.underlying T = some (.slice e)) (hinfo : (P.info? e).map (fun i => (i.zero, i.size, i.bytes)) = some (some z, sz, bytes))
    (hzs : z.cells.size = sz) (hsz : 0 < sz) (hks : ks.length = sz) (hone : ∀ k ∈ ks, ∀ w u, k w u → u.oneCell' = true) (hS : S e = true) (he : sh e = ks) (hst : ∀ k ∈ ks, StabK B br S sh k)
    {M N : Nat} (hs : SlK B br e ks M w (a.eval s)) (hx : SlK B br e ks N w (a.eval x)) (hB : B ≤ w.heap.size) (hbr : br < w.heap.size) (hbytes : (M + N) * bytes ≤ 140737488355328) (hMN : M + N ≤ 1000000)
    (h : ∀ v' w', SlK B br e ks (M + N) w' v' → RelK B br S sh w w' → (∃ row, w.grownBy w' row ∧ ∀ k, row = some k → B ≤ k ∧ k ≠ br) → (∀ A1 n1 c1 A2 n2 c2, a.eval s = .slice A1 n1 c1 → a.eval x = .slice A2 n2 c2 → ∃ A c, v' = .slice A (n1 + n2) c) → K (a.put o.dst v') w') : o.wp P a w K Q := by
  obtain ⟨i, hi, hz, hsize, hby⟩ := info_parts hinfo
  have same : ∀ Ax cx, a.eval x = .slice Ax 0 cx → o.wp P a w K Q := fun Ax cx hxv => by
    have h1 : (Builtin.append_ #[T, T] o.type #[a.eval s, .slice Ax 0 cx]).run P w = .ok (a.eval s) w := by
      rcases hs with h1 | ⟨g, q, n, c, h1, _, h2, _⟩
      · rw [h1]; cases Ax <;> simp [Builtin.append_, run_underlying ht, sizeOf, typeInfo, hi, Builtin.lenOf, Builtin.firstCells, loadCells, loadCellsFrom]
      · rw [h1]; cases Ax <;> simp [Builtin.append_, run_underlying ht, sizeOf, typeInfo, hi, Builtin.lenOf, Builtin.firstCells, h2, storeCells, loadCells, loadCellsFrom]
    unfold Oper.wp execOp
    simp only [ho, resolve, invoke, builtin, Sem.run_bind, Sem.run_pure, Result.andThen_ok, List.map_toArray, List.map_cons, List.map_nil, hxv, h1]
    exact h _ _ (hs.mono (by omega)) (RelK.refl w) ⟨Option.none, World.grownBy.refl w _, fun k e => by cases e⟩ (fun A1 n1 c1 A2 n2 c2 e1 e2 => by rw [hxv] at e2; cases e2; exact ⟨A1, c1, e1⟩)
  rcases hx with hxv | ⟨gx, ox, nx, cx, hxv, hxn, hxc, _, hxb⟩
  · exact same _ _ hxv
  · rcases Nat.eq_zero_or_pos nx with h0 | hpos
    · subst h0; exact same _ _ hxv
    obtain ⟨news, hl2, ht2, hc2⟩ := hxb.list (o := ox) (n := nx) (Nat.le_refl _) (by omega)
    have hone2 := ht2.one hone hl2
    have hcx : ∀ j u, news[j]? = some u → w.cell? ((⟨gx, ox * ks.length, Option.none⟩ : Addr).add j) = some u := fun j u hu => by rw [Addr.add_lit]; exact hc2 j u hu
    have hby2 : ∀ n, n ≤ M → (n + nx) * bytes ≤ 140737488355328 := fun n hn => Nat.le_trans (Nat.mul_le_mul_right _ (by omega)) hbytes
    rcases hs with hsv | ⟨g, q, n, c, hsv, hn, hnc, hcm, hb⟩
    · obtain ⟨v', w', h1, h2, h3, _⟩ := run_append_own (P := P) w w.heap.size T o.type e i z sz bytes ht hi hz hsize hby hzs hsz (.slice Option.none 0 0) 0 [] (World.ownsRow_nil w _ e sz) ⟨gx, ox * ks.length, Option.none⟩ nx cx news (by rw [hl2, hks]) hcx hone2 (by simp only [maxLen]; omega) (hby2 0 (by omega)) (Nat.le_refl _)
      have hr : RelK B br S sh w w' := RelK.grown (row := Option.none) h3 (fun k e => by cases e)
      unfold Oper.wp execOp
      simp only [ho, resolve, invoke, builtin, Sem.run_bind, Sem.run_pure, Result.andThen_ok, List.map_toArray, List.map_cons, List.map_nil, hsv, hxv, h1]
      exact h _ _ (SlK.of_own (n := 0 + nx) h2 hks hB hbr (by omega) (by simpa using ht2.rel hst hr)) hr ⟨Option.none, h3, fun k e => by cases e⟩ (fun A1 n1 c1 A2 n2 c2 e1 e2 => by rw [hsv] at e1; rw [hxv] at e2; cases e1; cases e2; obtain ⟨g, cap, hv, _⟩ := h2.form (by omega); exact ⟨_, _, hv⟩)
    · by_cases hroom : n + nx ≤ c
      · obtain ⟨hr, hb2⟩ := (hb.le (t' := q + n) (m' := q + c) (Nat.le_refl _) (Nat.le_refl _)).storeAt (S := S) (sh := sh) (c := nx) (vs := news) hS he hst hl2 (by omega) (fun i f k u hi hk hu => ht2 i f k u hi hk hu)
        have hcell : ∀ j, j < news.length → (w.cell? ⟨g, q * ks.length + n * sz + j, Option.none⟩).isSome = true := fun j hj => by
          obtain ⟨_, _, cs, h3, h4, _⟩ := hb
          rw [cell_of_row w g _ cs e (0, 0) h3, Array.getElem?_eq_getElem (by
            have := Nat.mul_le_mul_right ks.length (show q + (n + nx) ≤ q + c by omega)
            rw [Nat.add_mul, Nat.add_mul] at this
            rw [hks] at this h4 ⊢
            rw [hl2, hks] at hj
            omega)]
          rfl
        subst hsize
        have hrun := run_append_room_cells (P := P) w T o.type e i ht hi g (q * ks.length) n c ⟨gx, ox * ks.length, Option.none⟩ nx cx news (by rw [hl2, hks]) hcx hone2 hroom (fun j hj => hcell j hj) (fun j hj => hb.free _)
        rw [← setCells_eq] at hrun
        have e1 : q * ks.length + n * i.size = (q + n) * ks.length := by rw [Nat.add_mul, hks]
        rw [e1] at hrun
        unfold Oper.wp execOp
        simp only [ho, resolve, invoke, builtin, Sem.run_bind, Sem.run_pure, Result.andThen_ok, List.map_toArray, List.map_cons, List.map_nil, hsv, hxv, hrun]
        refine h _ _ (.inr ⟨g, q, n + nx, c, rfl, by omega, hroom, hcm, by rw [← Nat.add_assoc]; exact hb2⟩) hr ⟨some g, setCells_grown g news w _, fun k e => by cases e; exact ⟨hb.1, hb.2.1⟩⟩ (fun A1 n1 c1 A2 n2 c2 e1 e2 => by rw [hsv] at e1; rw [hxv] at e2; cases e1; cases e2; exact ⟨_, _, rfl⟩)
      · obtain ⟨olds, hl1, ht1, hc1⟩ := hb.list (o := q) (n := n) (Nat.le_refl _) (by omega)
        obtain ⟨v', w', h1, h2, h3⟩ := run_append_arg_grows (P := P) w T o.type e i z sz bytes ht hi hz hsize hby hzs hsz ⟨g, q * ks.length, Option.none⟩ n c olds (by rw [hl1, hks]) (fun j u hj => by rw [Addr.add_lit]; exact hc1 j u hj) ⟨gx, ox * ks.length, Option.none⟩ nx cx news (by rw [hl2, hks]) hcx (by omega) (by simp only [maxLen]; omega) (hby2 n hn)
        have hr : RelK B br S sh w w' := RelK.grown (row := Option.none) h3 (fun k e => by cases e)
        unfold Oper.wp execOp
        simp only [ho, resolve, invoke, builtin, Sem.run_bind, Sem.run_pure, Result.andThen_ok, List.map_toArray, List.map_cons, List.map_nil, hsv, hxv, h1]
        exact h _ _ (SlK.of_own h2 hks hB hbr (by omega) ((ht1.append hl1 ht2).rel hst hr)) hr ⟨Option.none, h3, fun k e => by cases e⟩ (fun A1 n1 c1 A2 n2 c2 e1 e2 => by rw [hsv] at e1; rw [hxv] at e2; cases e1; cases e2; obtain ⟨g, cap, hv, _⟩ := h2.form (by omega); exact ⟨_, _, hv⟩)
end
end Go.Proofs.YtpmelhkhmichcaaDoor
