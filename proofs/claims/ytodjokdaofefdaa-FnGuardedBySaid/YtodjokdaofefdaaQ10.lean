/- Kinds of values: operations on memory. -/
import Derived.Test.YtodjokdaofefdaaQ9
import Derived.Deep.MidRow
import Derived.Laws.OwnMore
import Derived.Great.BuildSlice
namespace Go.Proofs.Ytodjokdaofefdaa
set_option linter.unusedSimpArgs false
set_option linter.unusedVariables false
open Go.RowKit

def CK.flat : CK → Bool
  | .any | .code => false
  | _ => true
def flatRow (ks : List CK) : Bool := ks.all CK.flat
theorem flat_cell {c : Ctx} {tab : Tab} {k : CK} {w : World} {v : Value} (hk : k.flat = true) (h : cden c tab k w v) : v.cells = #[v] ∧ v.oneCell' = true := by
  cases k with
  | any => simp [CK.flat] at hk
  | code => simp [CK.flat] at hk
  | rdr => rw [show v = _ from h]; exact ⟨rfl, rfl⟩
  | nil => rw [show v = _ from h]; exact ⟨rfl, rfl⟩
  | int k lo hi => obtain ⟨n, rfl, _⟩ := h; exact ⟨rfl, rfl⟩
  | intx k => obtain ⟨n, rfl⟩ := h; exact ⟨rfl, rfl⟩
  | bool b => obtain ⟨n, rfl, _⟩ := h; exact ⟨rfl, rfl⟩
  | str m => obtain ⟨n, rfl, _⟩ := h; exact ⟨rfl, rfl⟩
  | sl i lo hi => obtain ⟨_, A, n, q, rfl, _⟩ := h; exact ⟨rfl, rfl⟩
  | sl0 lo hi => obtain ⟨A, n, q, rfl, _⟩ := h; exact ⟨rfl, rfl⟩
  | ptr i off => obtain ⟨g, q, rfl, _⟩ := h; exact ⟨rfl, rfl⟩
theorem flat_one {c : Ctx} {tab : Tab} {w : World} : ∀ {ks : List CK} {cs : List Value}, flatRow ks = true → RowK (ks.map (cden c tab)) w cs → ∀ v ∈ cs, v.oneCell' = true
  | [], cs, _, h, v, hv => by rw [show cs = [] from h] at hv; simp at hv
  | k :: ks, cs, hf, ⟨u, r, e, h1, h2⟩, v, hv => by
    simp only [flatRow, List.all_cons, Bool.and_eq_true] at hf
    subst e
    rcases List.mem_cons.1 hv with rfl | hv
    · exact (flat_cell hf.1 h1).2
    · exact flat_one (ks := ks) hf.2 h2 v hv
def kcells : Kd → Option (List CK)
  | .one (.c k) => if k.flat then some [k] else Option.none
  | .one (.agg ks) => if flatRow ks then some ks else Option.none
  | _ => Option.none
theorem kcells_ok {c : Ctx} {tab : Tab} {w : World} {v : Value} {k : Kd} {ks : List CK} (hk : kcells k = some ks) (h : k.den c tab w v) : flatRow ks = true ∧ ∃ cs : List Value, v.cells = cs.toArray ∧ RowK (ks.map (cden c tab)) w cs := by
  unfold kcells at hk
  split at hk
  · split at hk
    · rename_i hf
      cases hk
      exact ⟨by simp [flatRow, hf], [v], by rw [(flat_cell hf h).1], ⟨v, [], rfl, h, rfl⟩⟩
    · cases hk
  · split at hk
    · rename_i hf
      cases hk
      obtain ⟨cs, rfl, hr⟩ := h
      exact ⟨hf, cs, rfl, hr⟩
    · cases hk
  · cases hk

/-! ### Filling -/
def splice (ks : List CK) (off : Nat) (cs : List CK) : List CK := ks.take off ++ cs ++ ks.drop (off + cs.length)
theorem RowK.append {w : World} : ∀ {ks ks' : List VK} {cs cs' : List Value}, RowK ks w cs → RowK ks' w cs' → RowK (ks ++ ks') w (cs ++ cs')
  | [], _, cs, _, h, h' => by rw [show cs = [] from h]; exact h'
  | k :: ks, _, _, _, ⟨u, r, e, h1, h2⟩, h' => by subst e; exact ⟨u, r ++ _, rfl, h1, h2.append h'⟩
theorem RowK.take {w : World} : ∀ {ks : List VK} {cs : List Value} (n : Nat), RowK ks w cs → RowK (ks.take n) w (cs.take n)
  | [], cs, n, h => by rw [show cs = [] from h]; simp [RowK]
  | k :: ks, cs, 0, _ => by simp [RowK]
  | k :: ks, cs, n + 1, ⟨u, r, e, h1, h2⟩ => by subst e; exact ⟨u, r.take n, rfl, h1, h2.take n⟩
theorem RowK.drop {w : World} : ∀ {ks : List VK} {cs : List Value} (n : Nat), RowK ks w cs → RowK (ks.drop n) w (cs.drop n)
  | [], cs, n, h => by rw [show cs = [] from h]; simp [RowK]
  | k :: ks, cs, 0, h => h
  | k :: ks, cs, n + 1, ⟨u, r, e, h1, h2⟩ => by subst e; exact h2.drop n
theorem fold_set (off : Nat) : ∀ (l : List Value) (n : Nat) (arr : Array Value), off + n + l.length ≤ arr.size →
    ((l.zipIdx n).foldl (fun cs x => cs.setIfInBounds (off + x.2) x.1) arr).toList = arr.toList.take (off + n) ++ l ++ arr.toList.drop (off + n + l.length)
  | [], n, arr, h => by simp
  | x :: l, n, arr, h => by
    simp only [List.length_cons] at h
    rw [List.zipIdx_cons, List.foldl_cons, fold_set off l (n + 1) _ (by simp; omega)]
    simp only [Array.toList_setIfInBounds, List.length_cons]
    rw [List.drop_set_of_lt (by omega), show off + (n + 1) = off + n + 1 by omega, List.take_succ_eq_append_getElem (by rw [List.length_set]; simp; omega)]
    simp only [List.getElem_set_self]
    rw [List.take_set_of_le (Nat.le_refl _), show off + n + 1 + l.length = off + n + (l.length + 1) by omega]
    simp
def fillK (place : Nat → Option (Nat × Nat)) : List CK → List (Nat × Kd) → Option (List CK)
  | ks, [] => some ks
  | ks, (i, k) :: r => match place i, kcells k with
    | some (off, size), some cs => if cs.length = size ∧ off + cs.length ≤ ks.length then fillK place (splice ks off cs) r else Option.none
    | _, _ => Option.none
def PartsR (c : Ctx) (tab : Tab) (w : World) : List (Nat × Kd) → List (Nat × Value) → Prop
  | [], [] => True
  | p :: l, q :: r => (p.1 = q.1 ∧ p.2.den c tab w q.2) ∧ PartsR c tab w l r
  | _, _ => False
theorem fillK_ok {c : Ctx} {tab : Tab} {w : World} {place : Nat → Option (Nat × Nat)} : ∀ {parts : List (Nat × Kd)} {vs : List (Nat × Value)} {ks ks' : List CK} {cells : Array Value},
    fillK place ks parts = some ks' → RowK (ks.map (cden c tab)) w cells.toList → PartsR c tab w parts vs → ∃ cells' : Array Value, Instr.fill place cells vs = some cells' ∧ RowK (ks'.map (cden c tab)) w cells'.toList
  | [], [], ks, ks', cells, h, hr, _ => by cases h; exact ⟨cells, rfl, hr⟩
  | (i, k) :: parts, (_, v) :: vs, ks, ks', cells, h, hr, ⟨⟨hi, hd⟩, hrest⟩ => by
    simp only at hi hd
    subst hi
    simp only [fillK] at h
    cases hp : place i with
    | none => simp [hp] at h
    | some os =>
      obtain ⟨off, size⟩ := os
      cases hk : kcells k with
      | none => simp [hp, hk] at h
      | some cs =>
        simp only [hp, hk, Option.ite_none_right_eq_some] at h
        obtain ⟨⟨h1, h2⟩, h3⟩ := h
        obtain ⟨_, vs', hv, hr'⟩ := kcells_ok hk hd
        have hl : vs'.length = size := by rw [hr'.length]; simpa using h1
        have hcl : cells.toList.length = ks.length := by rw [hr.length]; simp
        have hfit : off + vs'.length ≤ cells.size := by rw [← Array.length_toList, hcl]; omega
        have e := fold_set off vs' 0 cells (by omega)
        simp only [Nat.add_zero] at e
        have hr2 : RowK ((splice ks off cs).map (cden c tab)) w (cells.toList.take off ++ vs' ++ cells.toList.drop (off + vs'.length)) := by
          have := ((hr.take off).append hr').append (hr.drop (off + vs'.length))
          simpa [splice, hl, h1, List.map_take, List.map_drop] using this
        rw [← e] at hr2
        obtain ⟨cells', h4, h5⟩ := fillK_ok h3 hr2 hrest
        refine ⟨cells', ?_, h5⟩
        rw [Instr.fill]
        simp only [hp, hv]
        rw [if_neg (by simp; omega)]
        rw [← h4]
        congr 1
        rw [← Array.foldl_toList]
        simp
  | [], _ :: _, _, _, _, _, _, h => h.elim
  | _ :: _, [], _, _, _, _, _, h => h.elim
theorem consts_row {c : Ctx} {tab : Tab} {w : World} : ∀ l : List Value, RowK ((l.map constK).map (cden c tab)) w l
  | [] => rfl
  | x :: l => ⟨x, l, rfl, constK_den x, consts_row l⟩
theorem parts_ok {c : Ctx} {tab : Tab} {w : World} {look : Nat → Kd} {a : Act} (h : ∀ s, (look s).den c tab w (a.eval (.tmp s))) : ∀ l : List (Nat × Operand), PartsR c tab w (l.map fun p => (p.1, kop look p.2)) (l.map fun p => (p.1, a.eval p.2))
  | [] => trivial
  | (i, x) :: l => ⟨⟨rfl, kop_den h x⟩, parts_ok h l⟩
def zeroK (z : Array Value) (n : Nat) : List CK := (List.range n).map fun j => constK (z[j % z.size]!)
theorem zeroK_row {c : Ctx} {tab : Tab} {w : World} (z : Array Value) (n : Nat) : RowK ((zeroK z n).map (cden c tab)) w ((Array.range n).map (z[· % z.size]!)).toList := by
  have : ((Array.range n).map (z[· % z.size]!)).toList = (List.range n).map (fun j => z[j % z.size]!) := by simp
  rw [this, show zeroK z n = ((List.range n).map (fun j => z[j % z.size]!)).map constK by simp [zeroK, List.map_map, Function.comp_def]]
  exact consts_row _

/-! ### Elements of a shape -/
def leRep (tab : Tab) (f : Nat) (sc : List CK) : Nat → List CK → Bool
  | 0, ks => ks.isEmpty
  | n + 1, ks => all2 (CK.le tab f) (ks.take sc.length) sc && leRep tab f sc n (ks.drop sc.length)
theorem RowK.typ {ks : List VK} {w : World} {cs : List Value} (h : RowK ks w cs) : TypL ks w 1 cs := fun q f k u hq hk hu => by
  obtain rfl : q = 0 := by omega
  exact h.at f k u hk (by simpa using hu)
theorem leRep_ok {c : Ctx} {tab : Tab} (ht : okTab tab = true) {w : World} {f : Nat} {sc : List CK} : ∀ {n : Nat} {ks : List CK} {cs : List Value}, leRep tab f sc n ks = true → RowK (ks.map (cden c tab)) w cs → TypL (sc.map (cden c tab)) w n cs ∧ cs.length = n * sc.length
  | 0, ks, cs, h, hr => by
    obtain rfl : ks = [] := by simpa [leRep] using h
    rw [show cs = [] from hr]
    exact ⟨fun q f k u hq => by omega, by simp⟩
  | n + 1, ks, cs, h, hr => by
    simp only [leRep, Bool.and_eq_true] at h
    have h1 := hr.take sc.length
    rw [← List.map_take] at h1
    have h1' := row_weaken (fun a b h v hv => le_den ht f a b h v hv) h.1 h1
    have h2 := hr.drop sc.length
    rw [← List.map_drop] at h2
    obtain ⟨h3, h4⟩ := leRep_ok ht h.2 h2
    have hl : (cs.take sc.length).length = sc.length := by rw [h1'.length]; simp
    refine ⟨?_, ?_⟩
    · have := h1'.typ.append (by simpa using hl) h3
      rw [List.take_append_drop] at this
      rwa [Nat.add_comm]
    · rw [← List.take_append_drop sc.length cs, List.length_append, hl, h4, Nat.succ_mul]; omega
/-- The shape into which elements of these kinds fit. -/
def findShape (tab : Tab) (f : Nat) (e : TypeId) (n : Nat) (ks : List CK) : Option Nat :=
  (List.range tab.length).find? fun i => (shp tab i).1 == e && flatRow (shp tab i).2 && leRep tab f (shp tab i).2 n ks
theorem findShape_ok {tab : Tab} {f : Nat} {e : TypeId} {n : Nat} {ks : List CK} {i : Nat} (h : findShape tab f e n ks = some i) : (shp tab i).1 = e ∧ flatRow (shp tab i).2 = true ∧ leRep tab f (shp tab i).2 n ks = true := by
  have := List.find?_some h
  simp only [Bool.and_eq_true, beq_iff_eq] at this
  exact ⟨this.1.1, this.1.2, this.2⟩
theorem BlkK.new' {B br t m : Nat} {e : TypeId} {ks : List VK} {w : World} {cs : Array Value} (hB : B ≤ w.heap.size) (hbr : w.heap.size ≠ br) (hm : m * ks.length ≤ cs.size) (ht : TypL ks (w.alloc (.cells cs e)) t cs.toList) : BlkK B br e ks t m (w.alloc (.cells cs e)) w.heap.size :=
  ⟨hB, hbr, cs, heap_alloc_new w _, hm, fun q f k u hq hk hu => ht q f k u hq hk (by simpa using hu)⟩
section
variable {G : Cfg} {o : Oper} {look : Nat → Kd} {lt : Nat → Nat → Bool} {ph ph' : Ph} {k : Kd} {fu : Nat}
/-- A new block of elements of a shape. -/
theorem new_block (ht : okTab G.tab = true) (hS : okSto G.tab G.S = true) {i n : Nat} {ks : List CK} {w : World} {cells : Array Value} {e : TypeId} (hi : findShape G.tab fu e n ks = some i) (hr : RowK (ks.map (cden G.c G.tab)) w cells.toList) (hI : Inv G.c G.w0 G.J ph w) (hp : ph.alloc G.J = some ph') :
    BlkK G.c.B G.c.br (tabOf G.c G.tab i).1 (tabOf G.c G.tab i).2 n n (w.alloc (.cells cells e)) w.heap.size ∧ Inv G.c G.w0 G.J ph' (w.alloc (.cells cells e)) ∧ Rel G.c G.tab G.S w (w.alloc (.cells cells e)) := by
  obtain ⟨h1, _, h2⟩ := findShape_ok hi
  obtain ⟨hI', hne⟩ := hI.grow (o := .cells cells e) hp
  obtain ⟨h3, h4⟩ := leRep_ok (c := G.c) ht h2 hr
  have htd := (tab_den (c := G.c) ht i).1
  have hrel : Rel G.c G.tab G.S w (w.alloc (.cells cells e)) := RelK.alloc w _
  refine ⟨?_, hI', hrel⟩
  rw [htd]
  simp only
  rw [h1]
  refine BlkK.new' hI.2.1 hne (by simp [← Array.length_toList, h4]) (h3.rel (S := sto G.S) (sh := stoShape G.c G.tab G.S) (fun k hk => ?_) hrel)
  obtain ⟨k0, _, rfl⟩ := List.mem_map.1 hk
  exact den_stab ht hS k0
def absBuild (P : Program) (look : Nat → Kd) (t : TypeId) (parts : Array (Nat × Operand)) : Option Kd :=
  match P.info? t, P.underlying t with
  | some it, some (.struct fields) =>
    match it.zero, fields.toList.mapM (fun f => (P.info? f.type).map fun i => (f.offset, i.size)) with
    | some z, some places => (fillK (places.toArray[·]?) (z.cells.toList.map constK) (parts.toList.map fun p => (p.1, kop look p.2))).map .ag
    | _, _ => Option.none
  | _, _ => Option.none
theorem s_build {t : TypeId} {parts : Array (Nat × Operand)} (ho : o.op = .build t parts) (hk : absBuild G.P look t parts = some k) : OpS G o look lt ph k ph .no := by
  intro a w K Q hI hl _ hK
  unfold absBuild at hk
  split at hk <;> try (cases hk; done)
  rename_i it fields e1 e2
  split at hk <;> try (cases hk; done)
  rename_i z places e3 e4
  obtain ⟨ks, h1, rfl⟩ := Option.map_eq_some_iff.1 hk
  obtain ⟨cells, h2, h3⟩ := fillK_ok h1 (consts_row (c := G.c) (tab := G.tab) (w := w) z.cells.toList) (parts_ok hl parts.toList)
  have hb : G.P.built t (parts.map fun (i, x) => (i, a.eval x)).toList = some cells := by
    simp only [Program.built, e1, e2, e3, e4]
    rw [← h2]
    simp
  refine op_val (hK (.agg cells) w ⟨cells.toList, by simp, h3⟩ (RelK.refl _) hI trivial) ?_
  simp only [execOp, ho, Sem.run_bind, run_build w t _ cells hb, Result.andThen_ok, Sem.run_pure]
def absBuildSlice (P : Program) (tab : Tab) (fu : Nat) (look : Nat → Kd) (t : TypeId) (len : Nat) (parts : Array (Nat × Operand)) : Option Kd :=
  match P.underlying t with
  | some (.slice e) =>
    match P.info? e with
    | some ie => match ie.zero with
      | some z => if 0 < ie.size ∧ len * ie.size ≤ 10000 ∧ len ≤ 10000 then
          match fillK (fun i => some (i * ie.size, ie.size)) (zeroK z.cells (len * ie.size)) (parts.toList.map fun p => (p.1, kop look p.2)) with
          | some ks => match findShape tab fu e len ks with
            | some i => some (.ck (.sl i len len))
            | _ => Option.none
          | _ => Option.none
        else Option.none
      | _ => Option.none
    | _ => Option.none
  | _ => Option.none
theorem s_buildSlice (ht : okTab G.tab = true) (hS : okSto G.tab G.S = true) {t : TypeId} {len : Nat} {parts : Array (Nat × Operand)} (ho : o.op = .buildSlice t len parts) (hk : absBuildSlice G.P G.tab fu look t len parts = some k) (e6 : ph.alloc G.J = some ph') : OpS G o look lt ph k ph' .no := by
  intro a w K Q hI hl _ hK
  unfold absBuildSlice at hk
  split at hk <;> try (cases hk; done)
  rename_i e e1
  split at hk <;> try (cases hk; done)
  rename_i ie e2
  split at hk <;> try (cases hk; done)
  rename_i z e3
  split at hk <;> try (cases hk; done)
  rename_i hc
  split at hk <;> try (cases hk; done)
  rename_i ks e4
  split at hk <;> try (cases hk; done)
  rename_i i e5
  cases hk
  obtain ⟨cells, h2, h3⟩ := fillK_ok e4 (zeroK_row (c := G.c) (tab := G.tab) (w := w) z.cells (len * ie.size)) (parts_ok hl parts.toList)
  obtain ⟨h4, h5, h6⟩ := new_block (cells := cells) ht hS e5 h3 hI e6
  refine op_val (hK (.slice (some ⟨w.heap.size, 0, Option.none⟩) len len) _ ⟨.inr ⟨w.heap.size, 0, len, len, by simp, Nat.le_refl _, Nat.le_refl _, by omega, by simpa using h4⟩, _, _, _, rfl, Nat.le_refl _⟩ h6 h5 trivial) ?_
  have h2' : Instr.fill (fun i => some (i * ie.size, ie.size)) ((Array.range (len * ie.size)).map (z.cells[· % z.cells.size]!)) (parts.map fun (i, x) => (i, a.eval x)).toList = some cells := by
    rw [← h2]; simp
  by_cases h0 : len * ie.size = 0
  · rw [h0, Array.range_zero'] at h2'
    simp only [List.map_toArray, List.map_nil] at h2'
    have hr2 : (Instr.buildSlice t len (parts.map fun (i, x) => (i, a.eval x))).run G.P w = .ok (.slice (some ⟨w.heap.size, 0, Option.none⟩) len len) (w.alloc (.cells cells e)) := by
      simp at h2'
      simp [Instr.buildSlice, run_underlying e1, sizeOf, typeInfo, e2, h0, newRow, h2', Array.range_zero']
    simp only [execOp, ho, Sem.run_bind, hr2, Result.andThen_ok, Sem.run_pure]
  · simp only [execOp, ho, Sem.run_bind, run_buildSlice w t e len _ cells ie z e1 e2 e3 (by omega) h0 h2', Result.andThen_ok, Sem.run_pure]
def absBox (tab : Tab) (fu : Nat) (e : TypeId) (kx : Kd) : Option Kd :=
  match kcells kx with
  | some ks => match findShape tab fu e 1 ks with
    | some i => some (.ck (.ptr i 0))
    | _ => Option.none
  | _ => Option.none
theorem box_ok (ht : okTab G.tab = true) (hS : okSto G.tab G.S = true) {a : Act} {w : World} {K : Act → World → Prop} {Q : Exit → Act → World → Prop} {e : TypeId} {kx : Kd} {v : Value} (hk : absBox G.tab fu e kx = some k) (e6 : ph.alloc G.J = some ph') (hv : kx.den G.c G.tab w v) (hI : Inv G.c G.w0 G.J ph w)
    (hr : (execOp a.eval o).run G.P w = .ok (.value (.pointer (some ⟨w.heap.size, 0, Option.none⟩))) (w.alloc (.cells v.cells e)))
    (hK : ∀ v w', k.den G.c G.tab w' v → Rel G.c G.tab G.S w w' → Inv G.c G.w0 G.J ph' w' → K (a.put o.dst v) w') : o.wp G.P a w K Q := by
  unfold absBox at hk
  split at hk <;> try (cases hk; done)
  rename_i ks e4
  split at hk <;> try (cases hk; done)
  rename_i i e5
  cases hk
  obtain ⟨_, cs, h1, h2⟩ := kcells_ok e4 hv
  obtain ⟨h4, h5, h6⟩ := new_block (cells := v.cells) ht hS e5 (by rw [h1]; exact h2) hI e6
  exact op_val (hK _ _ ⟨w.heap.size, 0, by simp, by simpa using h4⟩ h6 h5) hr
theorem s_box (ht : okTab G.tab = true) (hS : okSto G.tab G.S = true) {e : TypeId} {x : Operand} (ho : o.op = .box e x) (hk : absBox G.tab fu e (kop look x) = some k) (e6 : ph.alloc G.J = some ph') : OpS G o look lt ph k ph' .no := by
  intro a w K Q hI hl _ hK
  exact box_ok ht hS hk e6 (kop_den hl x) hI (by simp [execOp, ho, Instr.box, newVar, newRow]) (fun v w' h1 h2 h3 => hK v w' h1 h2 h3 trivial)
def absAlloc (P : Program) (tab : Tab) (fu : Nat) (e : TypeId) : Option Kd :=
  match P.info? e with
  | some ie => match ie.zero with
    | some (.agg cs) => absBox tab fu e (.ag (cs.toList.map constK))
    | some z => absBox tab fu e (.ck (constK z))
    | _ => Option.none
  | _ => Option.none
theorem s_alloc (ht : okTab G.tab = true) (hS : okSto G.tab G.S = true) {e : TypeId} (ho : o.op = .alloc e) (hk : absAlloc G.P G.tab fu e = some k) (e6 : ph.alloc G.J = some ph') : OpS G o look lt ph k ph' .no := by
  intro a w K Q hI hl _ hK
  unfold absAlloc at hk
  split at hk <;> try (cases hk; done)
  rename_i ie e1
  split at hk <;> try (cases hk; done)
  · rename_i cs e2
    exact box_ok (v := .agg cs) ht hS hk e6 ⟨cs.toList, by simp, consts_row _⟩ hI (by simp [execOp, ho, Instr.alloc, zeroValue, typeInfo, e1, e2, newVar, newRow]) (fun v w' h1 h2 h3 => hK v w' h1 h2 h3 trivial)
  · rename_i z _ e2
    exact box_ok (v := z) ht hS hk e6 (constK_den z) hI (by simp [execOp, ho, Instr.alloc, zeroValue, typeInfo, e1, e2, newVar, newRow]) (fun v w' h1 h2 h3 => hK v w' h1 h2 h3 trivial)
def absMake (P : Program) (tab : Tab) (fu : Nat) (t : TypeId) (kl kc : Kd) : Option Kd :=
  match kl, kc with
  | .one (.c (.int .i64 n n1)), .one (.c (.int .i64 m m1)) => if n = n1 ∧ m = n ∧ m1 = n ∧ 0 ≤ n ∧ n ≤ 1000 then
    match P.underlying t with
    | some (.slice e) => match P.info? e with
      | some ie => match ie.zero with
        | some z => if ie.bytes ≤ 1000 ∧ ie.size ≤ 100 then match findShape tab fu e n.toNat (zeroK z.cells (n.toNat * ie.size)) with
            | some i => some (.ck (.sl i n.toNat n.toNat))
            | _ => Option.none
          else Option.none
        | _ => Option.none
      | _ => Option.none
    | _ => Option.none
    else Option.none
  | _, _ => Option.none
theorem s_make (ht : okTab G.tab = true) (hS : okSto G.tab G.S = true) {t : TypeId} {x y : Operand} (ho : o.op = .makeSlice t x y) (hk : absMake G.P G.tab fu t (kop look x) (kop look y) = some k) (e6 : ph.alloc G.J = some ph') : OpS G o look lt ph k ph' .no := by
  intro a w K Q hI hl _ hK
  have hx := kop_den hl x
  have hy := kop_den hl y
  unfold absMake at hk
  split at hk <;> try (cases hk; done)
  rename_i n n1 m m1 ex ey
  rw [ex] at hx; rw [ey] at hy
  split at hk <;> try (cases hk; done)
  rename_i hc
  obtain ⟨c1, c2, c3, hn0, hn1⟩ := hc
  split at hk <;> try (cases hk; done)
  rename_i e e1
  split at hk <;> try (cases hk; done)
  rename_i ie e2
  split at hk <;> try (cases hk; done)
  rename_i z e3
  split at hk <;> try (cases hk; done)
  rename_i hb
  split at hk <;> try (cases hk; done)
  rename_i i e5
  cases hk
  obtain ⟨p, vx, p1, p2⟩ := hx
  obtain ⟨q, vy, q1, q2⟩ := hy
  obtain rfl : p = n := by omega
  obtain rfl : q = p := by omega
  obtain ⟨h4, h5, h6⟩ := new_block (cells := madeCells z.cells (q.toNat * ie.size)) ht hS e5 (zeroK_row z.cells _) hI e6
  refine op_val (hK (.slice (some ⟨w.heap.size, 0, Option.none⟩) q.toNat q.toNat) _ ⟨.inr ⟨w.heap.size, 0, q.toNat, q.toNat, by simp, Nat.le_refl _, Nat.le_refl _, by omega, by simpa using h4⟩, _, _, _, rfl, Nat.le_refl _⟩ h6 h5 trivial) ?_
  have hbb : (ie.bytes : Int) * q ≤ 1000 * 1000 := Int.mul_le_mul (by omega) hn1 hn0 (by omega)
  have hcc : q.toNat * ie.size ≤ 1000 * 100 := Nat.mul_le_mul (by omega) hb.2
  have := run_makeSlice (P := G.P) w t e ie z e1 e2 e3 .i64 .i64 q q hn0 (Int.le_refl _) (by omega) (by omega) (by omega)
  simp [execOp, ho, vx, vy, this]
/-! ### Reading and writing -/
def rowT (P : Program) (t : TypeId) : Option Bool := match P.underlying t with
  | some (.struct _) => some true
  | some (.array _ _) => Option.none
  | some _ => some false
  | Option.none => Option.none
def absLoad (P : Program) (tab : Tab) (t : TypeId) (ka : Kd) : Option Kd :=
  match ka with
  | .one (.c (.ptr i off)) => match rowT P t, P.info? t with
    | some true, some it => if off + it.size ≤ (shp tab i).2.length then some (.ag (((shp tab i).2.drop off).take it.size)) else Option.none
    | some false, some _ => ((shp tab i).2[off]?).map .ck
    | _, _ => Option.none
  | _ => Option.none
theorem load_run (ht : okTab G.tab = true) {t : TypeId} {w : World} {u0 : Value} {kx : Kd} (hk : absLoad G.P G.tab t kx = some k) (hx : kx.den G.c G.tab w u0) : ∃ A v, u0 = .pointer (some A) ∧ (loadVar t A).run G.P w = .ok v w ∧ k.den G.c G.tab w v := by
  unfold absLoad at hk
  split at hk <;> try (cases hk; done)
  rename_i i off
  obtain ⟨g, q, vx, hb⟩ := hx
  have htd := (tab_den (c := G.c) ht i).1
  have hlen : (tabOf G.c G.tab i).2.length = (shp G.tab i).2.length := by rw [htd]; simp
  have hcell : ∀ (j : Nat) k0, (shp G.tab i).2[j]? = some k0 → ∃ u, w.cell? ⟨g, q * (tabOf G.c G.tab i).2.length + j, Option.none⟩ = some u ∧ cden G.c G.tab k0 w u := fun j k0 hj => by
    have : (tabOf G.c G.tab i).2[j]? = some (cden G.c G.tab k0) := by rw [htd]; simp [hj, cden]
    exact hb.cell (Nat.le_refl _) (Nat.lt_succ_self _) this
  split at hk <;> try (cases hk; done)
  · rename_i it e1 e2
    split at hk <;> try (cases hk; done)
    rename_i hfit
    cases hk
    have hrow : ∀ (n : Nat) (off : Nat), off + n ≤ (shp G.tab i).2.length → ∃ cs : List Value, RowK ((((shp G.tab i).2.drop off).take n).map (cden G.c G.tab)) w cs ∧ w.rangeAt g (q * (tabOf G.c G.tab i).2.length + off) cs := by
      intro n
      induction n with
      | zero => intro off _; exact ⟨[], by simp [RowK], fun j v hv => by simp at hv⟩
      | succ n ih =>
        intro off hle
        obtain ⟨cs, h1, h2⟩ := ih (off + 1) (by omega)
        obtain ⟨u, h3, h4⟩ := hcell off ((shp G.tab i).2[off]) (List.getElem?_eq_getElem (by omega))
        refine ⟨u :: cs, ?_, ?_⟩
        · rw [List.drop_eq_getElem_cons (by omega), List.take_succ_cons, List.map_cons]
          exact ⟨u, cs, rfl, h4, h1⟩
        · intro j v hv
          cases j with
          | zero => simp at hv; subst hv; simpa using h3
          | succ j =>
            have := h2 j v (by simpa using hv)
            rwa [show q * (tabOf G.c G.tab i).2.length + (off + 1) + j = q * (tabOf G.c G.tab i).2.length + off + (j + 1) by omega] at this
    obtain ⟨cs, h1, h2⟩ := hrow it.size off hfit
    have hcl : cs.length = it.size := by rw [h1.length]; simp; omega
    unfold rowT at e1
    split at e1 <;> try (cases e1; done)
    rename_i fs e3
    exact ⟨_, .agg cs.toArray, vx, run_loadVar_mid w g _ t cs _ h2 e3 rfl (by rw [e2]; simp [hcl]), cs, rfl, h1⟩
  · rename_i it e1 e2
    obtain ⟨k0, h1, rfl⟩ := Option.map_eq_some_iff.1 hk
    obtain ⟨u, h3, h4⟩ := hcell off k0 h1
    refine ⟨_, u, vx, ?_, h4⟩
    unfold rowT at e1
    split at e1 <;> try (cases e1; done)
    rename_i d _ _ e3
    have hagg : (isAgg t).run G.P w = .ok false w := by
      unfold isAgg
      rw [Sem.run_bind, run_underlying e3 w]
      cases d <;> simp_all
    simp [loadVar, Sem.run_bind, hagg, h3]
theorem s_load (ht : okTab G.tab = true) {t : TypeId} {x : Operand} (ho : o.op = .load t x) (hk : absLoad G.P G.tab t (kop look x) = some k) : OpS G o look lt ph k ph .no := by
  intro a w K Q hI hl _ hK
  obtain ⟨A, v, h1, h2, h3⟩ := load_run ht hk (kop_den hl x)
  exact op_val (hK v w h3 (RelK.refl _) hI trivial) (by simp [execOp, ho, h1, Instr.loadAt, Instr.sureAddr, h2])
def absStore (P : Program) (tab : Tab) (S : Sto) (fu : Nat) (t : TypeId) (ka kv : Kd) : Bool :=
  match ka with
  | .one (.c (.ptr i off)) => match P.info? t, kcells kv with
    | some it, some ks => decide (ks.length = it.size) && decide (off + ks.length ≤ (shp tab i).2.length) && all2 (CK.le tab fu) ks (((shp tab i).2.drop off).take ks.length) && (S.lookup (shp tab i).1 == some i)
    | _, _ => false
  | _ => false
theorem s_store (ht : okTab G.tab = true) {t : TypeId} {x y : Operand} (ho : o.op = .store t x y) (hk : absStore G.P G.tab G.S fu t (kop look x) (kop look y) = true) : OpS G o look lt ph (.ck .any) ph .no := by
  intro a w K Q hI hl _ hK
  have hx := kop_den hl x
  have hy := kop_den hl y
  unfold absStore at hk
  split at hk <;> try (cases hk; done)
  rename_i i off ex
  rw [ex] at hx
  obtain ⟨g, q, vx, hb⟩ := hx
  split at hk <;> try (cases hk; done)
  rename_i it ks e2 e3
  simp only [Bool.and_eq_true, decide_eq_true_eq, beq_iff_eq] at hk
  obtain ⟨⟨⟨h1, h2⟩, h3⟩, h4⟩ := hk
  obtain ⟨hf, cs, hcs, hr⟩ := kcells_ok e3 hy
  have htd := (tab_den (c := G.c) ht i).1
  have hlen : (tabOf G.c G.tab i).2.length = (shp G.tab i).2.length := by rw [htd]; simp
  have hcl : cs.length = ks.length := by rw [hr.length]; simp
  have hr2 := row_weaken (fun a b h v hv => le_den ht fu a b h v hv) h3 hr
  have hT : (tabOf G.c G.tab i).1 = (shp G.tab i).1 := by rw [htd]
  have hSt : sto G.S (tabOf G.c G.tab i).1 = true := by simp [sto, hT, h4]
  have hsh : stoShape G.c G.tab G.S (tabOf G.c G.tab i).1 = (tabOf G.c G.tab i).2 := by simp [stoShape, hT, h4]
  have hrel : Rel G.c G.tab G.S w (setCells w g (q * (tabOf G.c G.tab i).2.length + off) cs) := RelK.store hb hSt hsh (Nat.lt_succ_self _) (by omega) (fun j k0 u hj hu => by
    rw [htd] at hj
    simp only [List.getElem?_map] at hj
    obtain ⟨k1, hj1, rfl⟩ := Option.map_eq_some_iff.1 hj
    have hju : j < cs.length := (List.getElem?_eq_some_iff.1 hu).1
    refine hr2.at j _ u ?_ hu
    rw [List.getElem?_map, List.getElem?_take_of_lt (by omega), List.getElem?_drop, hj1]
    rfl)
  have hg := setCells_grown g cs w (q * (tabOf G.c G.tab i).2.length + off)
  have hI' := hI.cells (g := 0) hg (fun k e => by cases e; exact ⟨hb.1, hb.2.1⟩) (setCells_size g cs w _)
  have hthere : w.there g (q * (tabOf G.c G.tab i).2.length + off) cs.length := fun j hj => by
    have hfree := hb.free (q * (tabOf G.c G.tab i).2.length + off + j)
    refine ⟨?_, hfree⟩
    have hjl : off + j < (shp G.tab i).2.length := by omega
    have : (tabOf G.c G.tab i).2[off + j]? = some (cden G.c G.tab ((shp G.tab i).2[off + j])) := by rw [htd]; simp [List.getElem?_eq_getElem hjl, cden]
    obtain ⟨u, hu, _⟩ := hb.cell (Nat.le_refl _) (Nat.lt_succ_self q) this
    rw [Nat.add_assoc, hu]; rfl
  have hrun : (Instr.storeAt t (.pointer (some ⟨g, q * (tabOf G.c G.tab i).2.length + off, Option.none⟩)) (a.eval y)).run G.P w = .ok () (setCells w g (q * (tabOf G.c G.tab i).2.length + off) cs) := by
    have := run_storeCells_cells (P := G.P) g (q * (tabOf G.c G.tab i).2.length + off) cs 0 w (fun j hj => by simpa using (hthere j hj).1) (fun j hj => by simpa using (hthere j hj).2) (flat_one hf hr)
    rw [setCells_eq]
    simp only [Nat.add_zero] at this
    have hsz : ¬ ((a.eval y).cells.size ≠ it.size) := by rw [hcs]; simp; omega
    have hl2 : (a.eval y).cells.toList = cs := by rw [hcs]
    simp [Instr.storeAt, Instr.sureAddr, storeVar, sizeOf, typeInfo, e2, hcs, this]
    omega
  have := hK undef _ trivial hrel hI' trivial
  unfold Oper.wp
  have he : (execOp a.eval o).run G.P w = .ok .skip (setCells w g (q * (tabOf G.c G.tab i).2.length + off) cs) := by
    simp [execOp, ho, vx, hrun]
  rw [he]
  exact this
def absFieldAddr (P : Program) (s : TypeId) (f : Nat) (kx : Kd) : Option Kd :=
  match kx, P.underlying s with
  | .one (.c (.ptr i off)), some (.struct fields) => match fields[f]? with
    | some fd => match P.info? fd.type with
      | some it => if it.size = 0 then Option.none else some (.ck (.ptr i (off + fd.offset)))
      | _ => Option.none
    | _ => Option.none
  | _, _ => Option.none
theorem s_fieldAddr {s : TypeId} {f : Nat} {x : Operand} (ho : o.op = .fieldAddr s x f) (hk : absFieldAddr G.P s f (kop look x) = some k) : OpS G o look lt ph k ph .no := by
  intro a w K Q hI hl _ hK
  have hx := kop_den hl x
  unfold absFieldAddr at hk
  split at hk <;> try (cases hk; done)
  rename_i i off fields ex e1
  rw [ex] at hx
  obtain ⟨g, q, vx, hb⟩ := hx
  split at hk <;> try (cases hk; done)
  rename_i fd e2
  split at hk <;> try (cases hk; done)
  rename_i it e3
  split at hk <;> try (cases hk; done)
  rename_i h0
  cases hk
  refine op_val (hK (.pointer (some ⟨g, q * (tabOf G.c G.tab i).2.length + (off + fd.offset), Option.none⟩)) w ⟨g, q, rfl, hb⟩ (RelK.refl _) hI trivial) ?_
  simp [execOp, ho, vx, Instr.fieldAt, Instr.sureAddr, run_underlying e1, e2, fieldPlace, sizeOf, typeInfo, e3, h0, Addr.add, Nat.add_assoc]
def absIndexAddr (P : Program) (tab : Tab) (lt : Bool) (t : TypeId) (kx ki : Kd) : Option Kd :=
  match kx, ki, P.underlying t with
  | .one (.c (.sl i lo hi)), .one (.c (.int .i64 l h)), some (.slice e) => match P.info? e with
    | some ie => if ie.size = (shp tab i).2.length ∧ ((0 ≤ l ∧ h < lo) ∨ lt = true) then some (.ck (.ptr i 0)) else Option.none
    | _ => Option.none
  | _, _, _ => Option.none
def ltOp (lt : Nat → Nat → Bool) : Operand → Operand → Bool
  | .tmp x, .tmp s => lt x s
  | _, _ => false
theorem s_indexAddr (ht : okTab G.tab = true) {t : TypeId} {x ix : Operand} (ho : o.op = .indexAddr t x ix) (hk : absIndexAddr G.P G.tab (ltOp lt ix x) t (kop look x) (kop look ix) = some k) : OpS G o look lt ph k ph .no := by
  intro a w K Q hI hl hlt hK
  have hx := kop_den hl x
  have hy := kop_den hl ix
  unfold absIndexAddr at hk
  split at hk <;> try (cases hk; done)
  rename_i i lo hi l h e ex ey e1
  rw [ex] at hx; rw [ey] at hy
  split at hk <;> try (cases hk; done)
  rename_i ie e2
  split at hk <;> try (cases hk; done)
  rename_i hc
  cases hk
  obtain ⟨m, vy, m1, m2⟩ := hy
  obtain ⟨hs, A, n, q, vx, hn⟩ := hx
  have htd := (tab_den (c := G.c) ht i).1
  have hlen : (tabOf G.c G.tab i).2.length = (shp G.tab i).2.length := by rw [htd]; simp
  have hin : 0 ≤ m ∧ m < n := by
    rcases hc.2 with h1 | h1
    · omega
    · unfold ltOp at h1
      split at h1
      · obtain ⟨A', n', q', m', e3, e4, h5⟩ := hlt _ _ h1
        rw [vx] at e3; rw [vy] at e4
        cases e3; cases e4
        exact h5
      · cases h1
  rcases hs with hs | ⟨g, o', n', q', hs, h1, h2, h3, h4⟩
  · rw [vx] at hs; cases hs; omega
  · rw [vx] at hs
    cases hs
    refine op_val (hK (.pointer (some ⟨g, (o' + m.toNat) * (tabOf G.c G.tab i).2.length + 0, Option.none⟩)) w ⟨g, o' + m.toNat, rfl, h4.le (by omega) (by omega)⟩ (RelK.refl _) hI trivial) ?_
    have hi2 := hin
    simp [execOp, ho, vx, vy, Instr.indexAt, run_underlying e1, asIntOf, sizeOf, typeInfo, e2, Addr.add, hin, hc.1, hlen, Nat.add_mul]
def absSlice (P : Program) (tab : Tab) (t : TypeId) (kx kl : Kd) : Option Kd :=
  match kx, kl, P.underlying t with
  | .one (.c (.sl i lo hi)), .one (.c (.int .i64 l h)), some (.slice e) => match P.info? e with
    | some ie => if ie.size = (shp tab i).2.length ∧ 0 ≤ l ∧ l = h ∧ l ≤ lo then some (.ck (.sl i (lo - l.toNat) (hi - l.toNat))) else Option.none
    | _ => Option.none
  | _, _, _ => Option.none
theorem s_slice (ht : okTab G.tab = true) {t : TypeId} {x l : Operand} (ho : o.op = .slice t x (some l) Option.none Option.none) (hk : absSlice G.P G.tab t (kop look x) (kop look l) = some k) : OpS G o look lt ph k ph .no := by
  intro a w K Q hI hl hlt hK
  have hx := kop_den hl x
  have hy := kop_den hl l
  unfold absSlice at hk
  split at hk <;> try (cases hk; done)
  rename_i i lo hi l0 h0 e ex ey e1
  rw [ex] at hx; rw [ey] at hy
  split at hk <;> try (cases hk; done)
  rename_i ie e2
  split at hk <;> try (cases hk; done)
  rename_i hc
  cases hk
  obtain ⟨m, vy, m1, m2⟩ := hy
  obtain ⟨hs, A, n, q, vx, hn⟩ := hx
  have htd := (tab_den (c := G.c) ht i).1
  have hlen : (tabOf G.c G.tab i).2.length = (shp G.tab i).2.length := by rw [htd]; simp
  obtain ⟨c1, c2, rfl, c4⟩ := hc
  obtain rfl : m = l0 := by omega
  have hrun : ∀ A n q, m.toNat ≤ n → (Instr.sliceAt t (.slice A n q) (some (.int .i64 m)) Option.none Option.none).run G.P w = .ok (.slice (if q = m.toNat then A else A.map (·.add (m.toNat * ie.size))) (n - m.toNat) (q - m.toNat)) w := fun A n q h => by
    have h2 : 0 ≤ m ∧ m ≤ (n : Int) := by omega
    simp [Instr.sliceAt, run_underlying e1, Instr.slice, Instr.sliceBounds, Instr.sliceBound, asIntOf, h2, sizeOf, typeInfo, e2]
  rcases hs with hs | ⟨g, o', n', q', hs, h1, h2, h3, h4⟩
  · rw [vx] at hs; cases hs
    have hm0 : m.toNat = 0 := by omega
    have hr := hrun Option.none 0 0 (by omega)
    rw [hm0] at hr
    refine op_val (hK (.slice Option.none 0 0) w ⟨SlK.nil, _, _, _, rfl, by omega⟩ (RelK.refl _) hI trivial) ?_
    simp [execOp, ho, vx, vy, hr]
  · rw [vx] at hs
    cases hs
    have hr := hrun (some ⟨g, o' * (tabOf G.c G.tab i).2.length, Option.none⟩) n q (by omega)
    refine op_val (v := .slice (if q = m.toNat then some ⟨g, o' * (tabOf G.c G.tab i).2.length, Option.none⟩ else (some (⟨g, o' * (tabOf G.c G.tab i).2.length, Option.none⟩ : Addr)).map (·.add (m.toNat * ie.size))) (n - m.toNat) (q - m.toNat)) (hK _ w ⟨.inr ?_, _, _, _, rfl, by omega⟩ (RelK.refl _) hI trivial) (by simp [execOp, ho, vx, vy, hr])
    by_cases hq : q = m.toNat
    · refine ⟨g, o', n - m.toNat, q - m.toNat, by rw [if_pos hq], by omega, by omega, by omega, h4.le (by omega) (by omega)⟩
    · refine ⟨g, o' + m.toNat, n - m.toNat, q - m.toNat, ?_, by omega, by omega, by omega, h4.le (by omega) (by omega)⟩
      rw [if_neg hq]
      simp [Addr.add, Nat.add_mul, c1, hlen]
end
end Go.Proofs.Ytodjokdaofefdaa
/- Kinds of values: lengths, append, calls; all operations in one. -/
namespace Go.Proofs.Ytodjokdaofefdaa
set_option linter.unusedSimpArgs false
set_option linter.unusedVariables false
open Go.RowKit

/-- A function of the program, by its kinds: what it is handed, what it gives, how often it draws at most. -/
structure Con where
  f : FuncId
  aks : List Kd
  rk : Kd
  cost : Nat
def ArgsR (c : Ctx) (tab : Tab) (w : World) : List Kd → List Value → Prop
  | [], [] => True
  | k :: l, v :: r => k.den c tab w v ∧ ArgsR c tab w l r
  | _, _ => False
def Enters (P : Program) (f : FuncId) : Prop := ∃ fn c, P.funcs[f]? = some fn ∧ (fn.name == "runtime.NumGoroutine") = false ∧ fn.body = some c
def ConOk (P : Program) (tab : Tab) (e : Con) : Prop := Enters P e.f ∧ ∀ (c : Ctx) (w : World) (N : Nat) (args : List Value), c.B ≤ w.heap.size → c.cb ≤ c.B → RdrT w c.br c.cb N → N + e.cost ≤ 1000000000 → ArgsR c tab w e.aks args →
  Calls P e.f args.toArray w fun ed w' => ∃ v, ed = .returned v ∧ e.rk.den c tab w' v ∧ RdrT w' c.br c.cb (N + e.cost) ∧ w.grownBy w' (some c.br)
/-- What an operation does to the state. -/
inductive Eff where
  | no | alloc | rows | opened
  | cost (c : Nat)
def Eff.app (J : Lim) : Eff → Ph → Option Ph
  | .no, ph => some ph
  | .alloc, ph => ph.alloc J
  | .rows, .run N => some (.run N)
  | .opened, .pre na => if na = J.J then some (.run 0) else Option.none
  | .cost c, .run N => if N + c ≤ J.lim then some (.run (N + c)) else Option.none
  | _, _ => Option.none
structure Conf where
  P : Program
  tab : Tab
  S : Sto
  J : Lim
  fu : Nat
  cons : List Con
  openF : FuncId
  pickF : FuncId
  oddF : FuncId
structure Good (T : Conf) : Prop where
  tab : okTab T.tab = true
  sto : okSto T.tab T.S = true
  mixed : T.P.follows .mixedOrders = true
  cons : ∀ e ∈ T.cons, ConOk T.P T.tab e
  enterO : Enters T.P T.openF
  enterP : Enters T.P T.pickF
  enterD : Enters T.P T.oddF
  openOk : ∀ (A : Option Addr) (l : List Int) (c cb : Nat) (w : World), cb ≤ w.heap.size → CodeR w cb A l → l.length ≤ c → l.length ≤ 9223372036854775807 →
    Calls T.P T.openF #[.slice A l.length c] w fun e w' => e = .returned (.pointer (some ⟨w.heap.size, 0, Option.none⟩)) ∧ Rdr w' w.heap.size cb 0 ∧ Below w.heap.size w w'
  pickOk : ∀ (br cb N : Nat) (n : Int) (w : World), RdrT w br cb N → N ≤ 1000000000 → 1 ≤ n → n ≤ 1000000 →
    Calls T.P T.pickF #[.pointer (some ⟨br, 0, Option.none⟩), .int .i64 n] w fun e w' => ∃ x : Int, e = .returned (.int .i64 x) ∧ 0 ≤ x ∧ x < n ∧ RdrT w' br cb (N + 1) ∧ w.grownBy w' (some br)
  oddOk : ∀ (br cb N : Nat) (n : Int) (w : World), RdrT w br cb N → N ≤ 1000000000 → 0 ≤ n → n ≤ 1000000 →
    Calls T.P T.oddF #[.pointer (some ⟨br, 0, Option.none⟩), .int .i64 n] w fun e w' => ∃ x : Bool, e = .returned (.bool x) ∧ RdrT w' br cb (N + 1) ∧ w.grownBy w' (some br)
/-- Where a walk stands. -/
abbrev Conf.cfg (T : Conf) (c : Ctx) (w0 : World) : Cfg := ⟨T.P, T.tab, T.S, T.J, c, w0⟩
theorem run_enter {P : Program} {f : FuncId} {fn : Func} {c : Code} (hf : P.funcs[f]? = some fn) (hname : (fn.name == "runtime.NumGoroutine") = false) (hb : fn.body = some c) (args : Array Value) (w : World) : (callFunc f args).run P w = .ok (.enter f args) w := by
  have h1 : fn.name ≠ "runtime.NumGoroutine" := by simpa using hname
  simp [callFunc, hf, h1, hb]
theorem op_calls {P : Program} {o : Oper} {a : Act} {w : World} {K : Act → World → Prop} {Q : Exit → Act → World → Prop} {f : FuncId} {args : Array Operand} {ats : Array TypeId} (hf : Enters P f) (ho : o.op = .call { callee := .value (.func f), args := args, argTypes := ats })
    {R : Ending → World → Prop} (hc : Calls P f (args.map a.eval) w R) (h : ∀ e w', R e w' → ∃ v, e = .returned v ∧ K (a.put o.dst v) w') : o.wp P a w K Q := by
  obtain ⟨fn, c, h1, h2, h3⟩ := hf
  have hr : (execOp a.eval o).run P w = .ok (.enter f (args.map a.eval)) w := by
    simp [execOp, ho, resolve, invoke, Deferred.ofValue, Act.eval, run_enter h1 h2 h3]
  unfold Oper.wp
  rw [hr, Oper.upon_enter]
  refine hc.mono fun e w' hh => ?_
  obtain ⟨v, rfl, hk⟩ := h e w' hh
  exact hk
section
variable {T : Conf} {c : Ctx} {w0 : World} {o : Oper} {look : Nat → Kd} {lt : Nat → Nat → Bool} {ph ph' : Ph} {k : Kd}
theorem args_ok {tab : Tab} {w : World} {a : Act} (h : ∀ s, (look s).den c tab w (a.eval (.tmp s))) : ∀ {l : List Operand} {aks : List Kd} {fu : Nat}, okTab tab = true → all2 (Kd.le tab fu) (l.map (kop look)) aks = true → ArgsR c tab w aks (l.map a.eval)
  | [], [], _, _, _ => trivial
  | x :: l, k :: aks, fu, ht, h2 => by
    simp only [List.map_cons, all2, Bool.and_eq_true] at h2
    exact ⟨Kd.le_den ht h2.1 (kop_den h x), args_ok h ht h2.2⟩
  | [], _ :: _, _, _, h2 => by simp [all2] at h2
  | _ :: _, [], _, _, h2 => by simp [all2] at h2
/-- len -/
def absLen (P : Program) (t : TypeId) (kx : Kd) : Option CK :=
  match kx, P.underlying t with
  | .one (.c (.sl _ lo hi)), some (.slice _) => some (.int .i64 lo hi)
  | .one (.c (.sl0 lo hi)), some (.slice _) => some (.int .i64 lo hi)
  | .one (.c .nil), some (.slice _) => some (.int .i64 0 0)
  | .one (.c (.str m)), some .string => some (.int .i64 0 m)
  | _, _ => Option.none
theorem s_len {x : Operand} {t : TypeId} {kc : CK} (ho : o.op = .call { callee := .builtin .len, args := #[x], argTypes := #[t] }) (hk : absLen T.P t (kop look x) = some kc) : OpS (T.cfg c w0) o look lt ph (.ck kc) ph (.len x) := by
  intro a w K Q hI hl _ hK
  have hx := kop_den hl x
  have slc : ∀ e A n q, T.P.underlying t = some (.slice e) → a.eval x = .slice A n q → cden c T.tab kc w (.int .i64 n) → o.wp T.P a w K Q := fun e A n q h1 h2 h3 => by
    refine op_val (hK (.int .i64 n) w h3 (RelK.refl _) hI (fun A' n' q' h => by rw [h2] at h; cases h; rfl)) ?_
    simp [execOp, ho, resolve, invoke, builtin, Builtin.len_, run_underlying h1, h2, goInt]
  unfold absLen at hk
  split at hk <;> try (cases hk; done)
  · rename_i i lo hi e ex e1
    rw [ex] at hx
    cases hk
    obtain ⟨hs, A, n, q, vx, hn⟩ := hx
    obtain ⟨A', n', q', h6, h7, _⟩ := hs.shape
    rw [vx] at h6
    cases h6
    exact slc e A n q e1 vx ⟨_, rfl, by omega, by omega⟩
  · rename_i lo hi e ex e1
    rw [ex] at hx
    cases hk
    obtain ⟨A, n, q, vx, hn, hn2⟩ := hx
    exact slc e A n q e1 vx ⟨_, rfl, by omega, by omega⟩
  · rename_i e ex e1
    rw [ex] at hx
    cases hk
    exact slc e _ _ _ e1 hx ⟨_, rfl, by omega, by omega⟩
  · rename_i m ex e1
    rw [ex] at hx
    cases hk
    obtain ⟨s, vx, hs⟩ := hx
    refine op_val (hK (.int .i64 s.size) w ⟨_, rfl, by omega, by omega⟩ (RelK.refl _) hI (fun A' n' q' h => by rw [vx] at h; cases h)) ?_
    simp [execOp, ho, resolve, invoke, builtin, Builtin.len_, run_underlying e1, vx, goInt]
/-- append -/
def slOf : Kd → Option (Option Nat × Nat × Nat)
  | .one (.c (.sl i lo hi)) => some (some i, lo, hi)
  | .one (.c .nil) => some (Option.none, 0, 0)
  | _ => Option.none
def absAppend (P : Program) (tab : Tab) (S : Sto) (fu : Nat) (t : TypeId) (ks kx : Kd) : Option Kd :=
  match P.underlying t, slOf ks, slOf kx with
  | some (.slice e), some (_, lo, hi), some (_, lo', hi') =>
    match P.info? e, S.lookup e with
    | some ie, some i => match ie.zero with
      | some z => if z.cells.size = ie.size ∧ 0 < ie.size ∧ (shp tab i).1 = e ∧ (shp tab i).2.length = ie.size ∧ flatRow (shp tab i).2 = true ∧ Kd.le tab fu ks (.ck (.sl i 0 hi)) = true ∧ Kd.le tab fu kx (.ck (.sl i 0 hi')) = true ∧ (hi + hi') * ie.bytes ≤ 140737488355328 ∧ hi + hi' ≤ 1000000
          then some (.ck (.sl i (lo + lo') (hi + hi'))) else Option.none
      | _ => Option.none
    | _, _ => Option.none
  | _, _, _ => Option.none
theorem slOf_ok {tab : Tab} {w : World} {v : Value} {x : Option Nat} {lo hi : Nat} (h : slOf k = some (x, lo, hi)) (hv : k.den c tab w v) : ∃ A n q, v = .slice A n q ∧ lo ≤ n := by
  unfold slOf at h
  split at h <;> cases h
  · exact hv.2
  · exact ⟨_, _, _, hv, Nat.le_refl _⟩
theorem s_append (hT : Good T) {s x : Operand} {t : TypeId} (ho : o.op = .call { callee := .builtin .append, args := #[s, x], argTypes := #[t, t] }) (hk : absAppend T.P T.tab T.S T.fu t (kop look s) (kop look x) = some k) {N : Nat} (hN : ph = .run N) : OpS (T.cfg c w0) o look lt ph k ph .no := by
  subst hN
  intro a w K Q hI hl _ hK
  have hs := kop_den hl s
  have hx := kop_den hl x
  unfold absAppend at hk
  split at hk <;> try (cases hk; done)
  rename_i e xs lo hi xx lo' hi' e1 e2 e3
  split at hk <;> try (cases hk; done)
  rename_i ie i e4 e5
  split at hk <;> try (cases hk; done)
  rename_i z e6
  split at hk <;> try (cases hk; done)
  rename_i hc
  cases hk
  obtain ⟨c1, c2, c3, c4, c5, c6, c7, c8, c9⟩ := hc
  obtain ⟨A1, n1, q1, v1, l1⟩ := slOf_ok e2 hs
  obtain ⟨A2, n2, q2, v2, l2⟩ := slOf_ok e3 hx
  have hs' := (Kd.le_den hT.tab c6 hs).1
  have hx' := (Kd.le_den hT.tab c7 hx).1
  have htd := (tab_den (c := c) hT.tab i).1
  have hT1 : (tabOf c T.tab i).1 = e := by rw [htd]; exact c3
  have hlen : (tabOf c T.tab i).2.length = ie.size := by rw [htd]; simpa using c4
  rw [hT1] at hs' hx'
  have hbr := RdrT.lt hI.2.2.2.2
  refine op_append_K (S := sto T.S) (sh := stoShape c T.tab T.S) s x t z ie.size ie.bytes ho e1 (by rw [e4]; simp [e6]) c1 c2 hlen (fun k hk w u hu => ?_) (by simp [sto, e5]) (by simp [stoShape, e5]) (shape_stab hT.tab hT.sto i) hs' hx' hI.2.1 hbr c8 c9 ?_
  · rw [htd] at hk
    obtain ⟨k0, hk0, rfl⟩ := List.mem_map.1 hk
    exact (flat_cell (List.all_eq_true.1 c5 k0 hk0) hu).2
  · rintro v' w' h1 h2 ⟨row, h3, h4⟩ h5
    obtain ⟨A, q, rfl⟩ := h5 _ _ _ _ _ _ v1 v2
    refine hK _ w' ⟨by rw [hT1]; exact h1, _, _, _, rfl, by omega⟩ h2 (hI.rows h3 h4) trivial
/-- max, min -/
def absMax (b : Bool) : Kd → Kd → Option CK
  | .one (.c (.int .i64 lo hi)), .one (.c (.int .i64 lo' hi')) => some (if b then .int .i64 (max lo lo') (max hi hi') else .int .i64 (min lo lo') (min hi hi'))
  | _, _ => Option.none
theorem s_max {x y : Operand} {ts : Array TypeId} {kc : CK} {b : Bool} (ho : o.op = .call { callee := .builtin (if b then .max else .min), args := #[x, y], argTypes := ts }) (hk : absMax b (kop look x) (kop look y) = some kc) : OpS (T.cfg c w0) o look lt ph (.ck kc) ph .no := by
  intro a w K Q hI hl _ hK
  have hx := kop_den hl x
  have hy := kop_den hl y
  unfold absMax at hk
  split at hk <;> try (cases hk; done)
  rename_i lo hi lo' hi' ex ey
  rw [ex] at hx; rw [ey] at hy
  cases hk
  obtain ⟨m, vx, m1, m2⟩ := hx
  obtain ⟨n, vy, n1, n2⟩ := hy
  cases b
  · refine op_val (v := .int .i64 (if n < m then n else m)) (hK _ w ⟨_, rfl, by split <;> omega, by split <;> omega⟩ (RelK.refl _) hI trivial) ?_
    simp [execOp, ho, resolve, invoke, builtin, Builtin.min_, Builtin.min2, vx, vy]
  · refine op_val (v := .int .i64 (if m < n then n else m)) (hK _ w ⟨_, rfl, by split <;> omega, by split <;> omega⟩ (RelK.refl _) hI trivial) ?_
    simp [execOp, ho, resolve, invoke, builtin, Builtin.max_, Builtin.max2, vx, vy]
/-- calls -/
def absCall (T : Conf) (look : Nat → Kd) (f : FuncId) (args : List Operand) : Option (Kd × Eff × Xp) :=
  if f = T.openF then (match args with
      | [x] => (match kop look x with | .one (.c .code) => some (.ck .rdr, .opened, .no) | _ => Option.none)
      | _ => Option.none)
  else if f = T.pickF then (match args with
      | [x, y] => (match kop look x, kop look y with
        | .one (.c .rdr), .one (.c (.int .i64 lo hi)) => if 1 ≤ lo ∧ hi ≤ 1000000 then some (.ck (.int .i64 0 (hi - 1)), .cost 1, .less y) else Option.none
        | _, _ => Option.none)
      | _ => Option.none)
  else if f = T.oddF then (match args with
      | [x, y] => (match kop look x, kop look y with
        | .one (.c .rdr), .one (.c (.int .i64 lo hi)) => if 0 ≤ lo ∧ hi ≤ 1000000 then some (.ck (.bool Option.none), .cost 1, .no) else Option.none
        | _, _ => Option.none)
      | _ => Option.none)
  else match T.cons.find? (fun e => e.f == f && all2 (Kd.le T.tab T.fu) (args.map (kop look)) e.aks) with
      | some e => some (e.rk, .cost e.cost, .no)
      | _ => Option.none
theorem cost_app {J : Lim} {n : Nat} {ph ph' : Ph} (h : (Eff.cost n).app J ph = some ph') : ∃ N, ph = .run N ∧ N + n ≤ J.lim ∧ ph' = .run (N + n) := by
  cases ph with
  | pre na => cases h
  | run N =>
    simp only [Eff.app, Option.ite_none_right_eq_some, Option.some.injEq] at h
    exact ⟨N, rfl, h.1, h.2.symm⟩
theorem s_call (hT : Proofs.Ytodjokdaofefdaa.Good T) {f : FuncId} {args : Array Operand} {ats : Array TypeId} {x : Xp} {eff : Eff} (ho : o.op = .call { callee := .value (.func f), args := args, argTypes := ats }) (hk : absCall T look f args.toList = some (k, eff, x)) (hp : eff.app T.J ph = some ph') : OpS (T.cfg c w0) o look lt ph k ph' x := by
  intro a w K Q hI hl _ hK
  have hat : (args.toList.map a.eval).toArray = args.map a.eval := by
    rw [← Array.toList_map]
  unfold absCall at hk
  split at hk
  · rename_i hf
    subst hf
    split at hk <;> try (cases hk; done)
    rename_i y ea
    split at hk <;> try (cases hk; done)
    rename_i ey
    cases hk
    cases ph with
    | run N => cases hp
    | pre na =>
    simp only [Eff.app, Option.ite_none_right_eq_some, Option.some.injEq] at hp
    obtain ⟨rfl, rfl⟩ := hp
    have hy := kop_den hl y
    rw [ey] at hy
    have hI0 : Inv c w0 T.J (.pre T.J.J) w := hI
    obtain ⟨h1, h2, h3, g0, g1, g2, g3, A, l, q, g4, g5, g6⟩ := hI0
    have hy' : a.eval y = .slice A l.length q := hy.trans g4
    have hargs : args.map a.eval = #[.slice A l.length q] := by rw [← hat, ea]; simp [hy']
    refine op_calls hT.enterO ho (by rw [hargs]; exact hT.openOk A l q c.cb w (by omega) g6 g5 g6.1) ?_
    rintro e w' ⟨rfl, hR, hB⟩
    have hsz : w.heap.size = c.br := by omega
    refine ⟨_, rfl, hK _ w' (by rw [hsz]; rfl) (RelK.below hB) ⟨h1.step (grown_of_below hB Option.none) (fun k e => by cases e), Nat.le_trans h2 hB.size, h3, g0, ⟨0, by omega, by omega, by rw [← hsz]; exact hR⟩⟩ trivial⟩
  · split at hk
    · rename_i hf
      subst hf
      split at hk <;> try (cases hk; done)
      rename_i y z ea
      split at hk <;> try (cases hk; done)
      rename_i lo hi ey ez
      split at hk <;> try (cases hk; done)
      rename_i hc
      cases hk
      obtain ⟨N, rfl, hN, rfl⟩ := cost_app hp
      have hy := kop_den hl y
      have hz := kop_den hl z
      rw [ey] at hy; rw [ez] at hz
      obtain ⟨n, vz, n1, n2⟩ := hz
      have hy' : a.eval y = .pointer (some ⟨c.br, 0, Option.none⟩) := hy
      have hargs : args.map a.eval = #[.pointer (some ⟨c.br, 0, Option.none⟩), .int .i64 n] := by rw [← hat, ea]; simp [hy', vz]
      refine op_calls hT.enterP ho (by rw [hargs]; exact hT.pickOk c.br c.cb (c.N0 + N) n w hI.2.2.2.2 (by have h9 : c.N0 + T.J.lim ≤ 1000000000 := hI.2.2.2.1; omega) (by omega) (by omega)) ?_
      rintro e w' ⟨p, rfl, p1, p2, hR, hG⟩
      exact ⟨_, rfl, hK _ w' ⟨_, rfl, p1, by omega⟩ (rel_call hG) (hI.call hG hR) (fun m hm => by rw [vz] at hm; cases hm; exact ⟨p, rfl, p1, p2⟩)⟩
    · split at hk
      · rename_i hf
        subst hf
        split at hk <;> try (cases hk; done)
        rename_i y z ea
        split at hk <;> try (cases hk; done)
        rename_i lo hi ey ez
        split at hk <;> try (cases hk; done)
        rename_i hc
        cases hk
        obtain ⟨N, rfl, hN, rfl⟩ := cost_app hp
        have hy := kop_den hl y
        have hz := kop_den hl z
        rw [ey] at hy; rw [ez] at hz
        obtain ⟨n, vz, n1, n2⟩ := hz
        have hy' : a.eval y = .pointer (some ⟨c.br, 0, Option.none⟩) := hy
        have hargs : args.map a.eval = #[.pointer (some ⟨c.br, 0, Option.none⟩), .int .i64 n] := by rw [← hat, ea]; simp [hy', vz]
        refine op_calls hT.enterD ho (by rw [hargs]; exact hT.oddOk c.br c.cb (c.N0 + N) n w hI.2.2.2.2 (by have h9 : c.N0 + T.J.lim ≤ 1000000000 := hI.2.2.2.1; omega) (by omega) (by omega)) ?_
        rintro e w' ⟨p, rfl, hR, hG⟩
        exact ⟨_, rfl, hK _ w' ⟨_, rfl, fun y h => by cases h⟩ (rel_call hG) (hI.call hG hR) trivial⟩
      · split at hk <;> try (cases hk; done)
        rename_i e he
        cases hk
        obtain ⟨N, rfl, hN, rfl⟩ := cost_app hp
        have hmem := List.mem_of_find?_eq_some he
        have hcond := List.find?_some he
        simp only [Bool.and_eq_true, beq_iff_eq] at hcond
        obtain ⟨rfl, hle⟩ := hcond
        obtain ⟨hent, hcall⟩ := hT.cons e hmem
        refine op_calls hent ho (by rw [← hat]; exact hcall c w (c.N0 + N) _ hI.2.1 hI.2.2.1 hI.2.2.2.2 (by have h9 : c.N0 + T.J.lim ≤ 1000000000 := hI.2.2.2.1; omega) (args_ok hl hT.tab hle)) ?_
        rintro e' w' ⟨v, rfl, hv, hR, hG⟩
        exact ⟨v, rfl, hK v w' hv (rel_call hG) (hI.call hG (by rw [← Nat.add_assoc]; exact hR)) trivial⟩
/-- int to byte; bytes to string -/
def absConv (P : Program) (tab : Tab) (src dst : TypeId) (kx : Kd) : Option CK :=
  match kx, P.underlying src, P.underlying dst with
  | .one (.c (.int _ lo hi)), some (.int _), some (.int .u8) => if 0 ≤ lo ∧ hi ≤ 255 then some (.int .u8 lo hi) else Option.none
  | .one (.c (.sl i _ hi)), some (.slice e), some .string => match P.underlying e, (shp tab i).2 with
    | some (.int .u8), [.int .u8 _ _] => if hi ≤ 1000000 then some (.str hi) else Option.none
    | _, _ => Option.none
  | _, _, _ => Option.none
def numOf : Option Value → Int
  | some (.int _ z) => z
  | _ => 0
theorem slK_bytes {P : Program} {B br m : Nat} {T src dst e : TypeId} {lo hi : Int} {c : Ctx} {tb : Nat → TypeId × List VK} {w : World} {v : Value} (h : SlK B br T [CK.den c tb (.int .u8 lo hi)] m w v)
    (e1 : P.underlying src = some (.slice e)) (e2 : P.underlying e = some (.int .u8)) (e3 : P.underlying dst = some .string) : ∃ s : ByteArray, (convert src dst v).run P w = .ok (.string s) w ∧ s.size ≤ m := by
  rcases h with rfl | ⟨g, o, n, q, rfl, h1, h2, h3, h4⟩
  · exact ⟨_, run_convert_bytes_nil w src e e1 e2 0 0 dst e3, Nat.zero_le _⟩
  · obtain ⟨xs, x1, x2, x3⟩ := h4.list (n := n) (Nat.le_refl _) (by omega)
    simp only [List.length_cons, List.length_nil, Nat.zero_add, Nat.mul_one] at x1 x3 ⊢
    have hc : ∀ i, i < n → ∃ z : Int, xs[i]? = some (.int .u8 z) := fun i hi => by
      have hx : xs[i]? = some xs[i] := List.getElem?_eq_getElem (by omega)
      obtain ⟨z, hz, _⟩ := x2 i 0 _ xs[i] hi rfl (by simp)
      exact ⟨z, by rw [hx, hz]⟩
    refine ⟨_, run_convert_bytes_arg w src e e1 e2 g o n q ((List.range n).map fun i => numOf xs[i]?) (by simp) (fun i hi => ?_) dst e3, by rw [strOfNums_size]; simpa using h1⟩
    obtain ⟨z, hz⟩ := hc i hi
    rw [x3 i _ hz]
    simp [List.getD, hi, hz, numOf]
theorem s_conv {src dst : TypeId} {x : Operand} {kc : CK} (hT : okTab T.tab = true) (ho : o.op = .convert src dst x) (hk : absConv T.P T.tab src dst (kop look x) = some kc) : OpS (T.cfg c w0) o look lt ph (.ck kc) ph .no := by
  intro a w K Q hI hl _ hK
  have hx := kop_den hl x
  unfold absConv at hk
  split at hk
  · rename_i k0 lo hi k1 ex e1 e2
    rw [ex] at hx
    split at hk <;> try (cases hk; done)
    rename_i hc
    cases hk
    obtain ⟨m, vx, m1, m2⟩ := hx
    refine op_val (hK (.int .u8 m) w ⟨_, rfl, m1, m2⟩ (RelK.refl _) hI trivial) ?_
    have hw : IntKind.u8.wrap m = m := by
      simp only [IntKind.wrap, IntKind.bits, IntKind.signed]
      have : m % 256 = m := Int.emod_eq_of_lt (by omega) (by omega)
      simp [this]
    simp [execOp, ho, vx, convert, run_underlying e1, run_underlying e2, Conv.intToInt, hw]
  · rename_i i lo hi e ex e1 e2
    rw [ex] at hx
    split at hk <;> try (cases hk; done)
    rename_i b1 b2 f1 f2
    split at hk <;> try (cases hk; done)
    cases hk
    have hs := hx.1
    have ht := (tab_den (c := c) hT i).1
    rw [ht, f2] at hs
    obtain ⟨s, hs1, hs2⟩ := slK_bytes (P := T.P) (dst := dst) hs e1 f1 e2
    refine op_val (hK (.string s) w ⟨s, rfl, hs2⟩ (RelK.refl _) hI trivial) ?_
    simp [execOp, ho, hs1]
  · cases hk
end
/-- All of them. -/
def absOp (T : Conf) (look : Nat → Kd) (lt : Nat → Nat → Bool) (op : Op) : Option (Kd × Eff × Xp) :=
  match op with
  | .move x => some (kop look x, .no, .same x)
  | .assign x => some (kop look x, .no, .same x)
  | .pick c x y => (absPick T.tab T.fu (kop look c) (kop look x) (kop look y)).map fun k => (k, .no, .sel c x y)
  | .alloc e => (absAlloc T.P T.tab T.fu e).map fun k => (k, .alloc, .no)
  | .box e x => (absBox T.tab T.fu e (kop look x)).map fun k => (k, .alloc, .no)
  | .build t ps => (absBuild T.P look t ps).map fun k => (k, .no, .no)
  | .buildSlice t n ps => (absBuildSlice T.P T.tab T.fu look t n ps).map fun k => (k, .alloc, .no)
  | .load t x => (absLoad T.P T.tab t (kop look x)).map fun k => (k, .no, .no)
  | .store t x y => if absStore T.P T.tab T.S T.fu t (kop look x) (kop look y) then some (.ck .any, .no, .no) else Option.none
  | .binOp b _ x y _ => (absBin b (kop look x) (kop look y)).map fun k => (.ck k, .no, .cmp b x y)
  | .unOp .not _ x => (absNot (kop look x)).map fun k => (.ck k, .no, .neg x)
  | .makeSlice t x y => (absMake T.P T.tab T.fu t (kop look x) (kop look y)).map fun k => (k, .alloc, .no)
  | .slice t x (some l) Option.none Option.none => (absSlice T.P T.tab t (kop look x) (kop look l)).map fun k => (k, .no, .no)
  | .fieldAddr s x f => (absFieldAddr T.P s f (kop look x)).map fun k => (k, .no, .no)
  | .indexAddr t x ix => (absIndexAddr T.P T.tab (ltOp lt ix x) t (kop look x) (kop look ix)).map fun k => (k, .no, .no)
  | .extract x n => (absExtract n (kop look x)).map fun k => (k, .no, .no)
  | .convert s d x => (absConv T.P T.tab s d (kop look x)).map fun k => (.ck k, .no, .no)
  | .call { callee := .value (.func f), args, argTypes := _ } => absCall T look f args.toList
  | .call { callee := .builtin .len, args := ⟨[x]⟩, argTypes := ⟨[t]⟩ } => (absLen T.P t (kop look x)).map fun k => (.ck k, .no, .len x)
  | .call { callee := .builtin .append, args := ⟨[s, x]⟩, argTypes := ⟨[t, t']⟩ } => if t = t' then (absAppend T.P T.tab T.S T.fu t (kop look s) (kop look x)).map fun k => (k, .rows, .no) else Option.none
  | .call { callee := .builtin .max, args := ⟨[x, y]⟩, argTypes := _ } => (absMax true (kop look x) (kop look y)).map fun k => (.ck k, .no, .no)
  | .call { callee := .builtin .min, args := ⟨[x, y]⟩, argTypes := _ } => (absMax false (kop look x) (kop look y)).map fun k => (.ck k, .no, .no)
  | _ => Option.none
theorem absOp_ok {T : Conf} (hT : Good T) {c : Ctx} {w0 : World} {o : Oper} {look : Nat → Kd} {lt : Nat → Nat → Bool} {ph ph' : Ph} {k : Kd} {eff : Eff} {x : Xp} (h : absOp T look lt o.op = some (k, eff, x)) (hp : eff.app T.J ph = some ph') : OpS (T.cfg c w0) o look lt ph k ph' x := by
  unfold absOp at h
  split at h
  case h_1 x' ho => cases h; cases hp; exact s_move (.inl ho)
  case h_2 x' ho => cases h; cases hp; exact s_move (.inr ho)
  case h_3 ho => obtain ⟨k1, h1, h2⟩ := Option.map_eq_some_iff.1 h; cases h2; cases hp; exact s_pick (G := T.cfg c w0) hT.tab ho h1
  case h_4 ho => obtain ⟨k1, h1, h2⟩ := Option.map_eq_some_iff.1 h; cases h2; exact s_alloc (G := T.cfg c w0) hT.tab hT.sto ho h1 hp
  case h_5 ho => obtain ⟨k1, h1, h2⟩ := Option.map_eq_some_iff.1 h; cases h2; exact s_box (G := T.cfg c w0) hT.tab hT.sto ho h1 hp
  case h_6 ho => obtain ⟨k1, h1, h2⟩ := Option.map_eq_some_iff.1 h; cases h2; cases hp; exact s_build (G := T.cfg c w0) ho h1
  case h_7 ho => obtain ⟨k1, h1, h2⟩ := Option.map_eq_some_iff.1 h; cases h2; exact s_buildSlice (G := T.cfg c w0) hT.tab hT.sto ho h1 hp
  case h_8 ho => obtain ⟨k1, h1, h2⟩ := Option.map_eq_some_iff.1 h; cases h2; cases hp; exact s_load (G := T.cfg c w0) hT.tab ho h1
  case h_9 ho => split at h <;> cases h; cases hp; rename_i h1; exact s_store (G := T.cfg c w0) hT.tab ho h1
  case h_10 ho => obtain ⟨k1, h1, h2⟩ := Option.map_eq_some_iff.1 h; cases h2; cases hp; exact s_bin (G := T.cfg c w0) ho h1
  case h_11 ho => obtain ⟨k1, h1, h2⟩ := Option.map_eq_some_iff.1 h; cases h2; cases hp; exact s_not (G := T.cfg c w0) ho h1
  case h_12 ho => obtain ⟨k1, h1, h2⟩ := Option.map_eq_some_iff.1 h; cases h2; exact s_make (G := T.cfg c w0) hT.tab hT.sto ho h1 hp
  case h_13 ho => obtain ⟨k1, h1, h2⟩ := Option.map_eq_some_iff.1 h; cases h2; cases hp; exact s_slice (G := T.cfg c w0) hT.tab ho h1
  case h_14 ho => obtain ⟨k1, h1, h2⟩ := Option.map_eq_some_iff.1 h; cases h2; cases hp; exact s_fieldAddr (G := T.cfg c w0) ho h1
  case h_15 ho => obtain ⟨k1, h1, h2⟩ := Option.map_eq_some_iff.1 h; cases h2; cases hp; exact s_indexAddr (G := T.cfg c w0) hT.tab ho h1
  case h_16 ho => obtain ⟨k1, h1, h2⟩ := Option.map_eq_some_iff.1 h; cases h2; cases hp; exact s_extract (G := T.cfg c w0) ho h1
  case h_17 ho => obtain ⟨k1, h1, h2⟩ := Option.map_eq_some_iff.1 h; cases h2; cases hp; exact s_conv hT.tab ho h1
  case h_18 ho => exact s_call hT ho h hp
  case h_19 ho => obtain ⟨k1, h1, h2⟩ := Option.map_eq_some_iff.1 h; cases h2; cases hp; exact s_len ho h1
  case h_20 ho => split at h <;> try (cases h; done)
                  rename_i ht; subst ht
                  obtain ⟨k1, h1, h2⟩ := Option.map_eq_some_iff.1 h; cases h2
                  cases ph with
                  | pre na => cases hp
                  | run N => cases hp; exact s_append hT ho h1 rfl
  case h_21 ho => obtain ⟨k1, h1, h2⟩ := Option.map_eq_some_iff.1 h; cases h2; cases hp; exact s_max (b := true) ho h1
  case h_22 ho => obtain ⟨k1, h1, h2⟩ := Option.map_eq_some_iff.1 h; cases h2; cases hp; exact s_max (b := false) ho h1
  case h_23 => cases h
end Go.Proofs.Ytodjokdaofefdaa
