/- Kinds of values: operations on memory. -/
import Derived.Test.YtodjokdaofefdaaGreatQ22
import Derived.Deep.MidRow
import Derived.Laws.OwnMore
import Derived.Great.BuildSlice
namespace Go.Proofs.YtodjokdaofefdaaGreat
set_option linter.unusedSimpArgs false
set_option linter.unusedVariables false
open Go.RowKit

def CK.flat : CK → Bool
  | .any | .code => false
  | _ => true
def flatRow (ks : List CK) : Bool := ks.all CK.flat
theorem flat_cell {c : Ctx} {tab : Tab} {k : CK} {w : World} {v : Value} (hk : k.flat = true) (h : cden c tab k w v) : v.cells = #[v] ∧ v.oneCell' = true := by
  cases k with
  | any => simp [CK.flat] at hk
  | code => simp [CK.flat] at hk
  | rdr => rw [show v = _ from h]; exact ⟨rfl, rfl⟩
  | nil => rw [show v = _ from h]; exact ⟨rfl, rfl⟩
  | int k lo hi => obtain ⟨n, rfl, _⟩ := h; exact ⟨rfl, rfl⟩
  | intx k => obtain ⟨n, rfl⟩ := h; exact ⟨rfl, rfl⟩
  | bool b => obtain ⟨n, rfl, _⟩ := h; exact ⟨rfl, rfl⟩
  | str m => obtain ⟨n, rfl, _⟩ := h; exact ⟨rfl, rfl⟩
  | sl i lo hi => obtain ⟨_, A, n, q, rfl, _⟩ := h; exact ⟨rfl, rfl⟩
  | sl0 lo hi => obtain ⟨A, n, q, rfl, _⟩ := h; exact ⟨rfl, rfl⟩
  | ptr i off => obtain ⟨g, q, rfl, _⟩ := h; exact ⟨rfl, rfl⟩
theorem flat_one {c : Ctx} {tab : Tab} {w : World} : ∀ {ks : List CK} {cs : List Value}, flatRow ks = true → RowK (ks.map (cden c tab)) w cs → ∀ v ∈ cs, v.oneCell' = true
  | [], cs, _, h, v, hv => by rw [show cs = [] from h] at hv; simp at hv
  | k :: ks, cs, hf, ⟨u, r, e, h1, h2⟩, v, hv => by
    simp only [flatRow, List.all_cons, Bool.and_eq_true] at hf
    subst e
    rcases List.mem_cons.1 hv with rfl | hv
    · exact (flat_cell hf.1 h1).2
    · exact flat_one (ks := ks) hf.2 h2 v hv
def kcells : Kd → Option (List CK)
  | .one (.c k) => if k.flat then some [k] else Option.none
  | .one (.agg ks) => if flatRow ks then some ks else Option.none
  | _ => Option.none
theorem kcells_ok {c : Ctx} {tab : Tab} {w : World} {v : Value} {k : Kd} {ks : List CK} (hk : kcells k = some ks) (h : k.den c tab w v) : flatRow ks = true ∧ ∃ cs : List Value, v.cells = cs.toArray ∧ RowK (ks.map (cden c tab)) w cs := by
  unfold kcells at hk
  split at hk
  · split at hk
    · rename_i hf
      cases hk
      exact ⟨by simp [flatRow, hf], [v], by rw [(flat_cell hf h).1], ⟨v, [], rfl, h, rfl⟩⟩
    · cases hk
  · split at hk
    · rename_i hf
      cases hk
      obtain ⟨cs, rfl, hr⟩ := h
      exact ⟨hf, cs, rfl, hr⟩
    · cases hk
  · cases hk

/-! ### Filling -/
def splice (ks : List CK) (off : Nat) (cs : List CK) : List CK := ks.take off ++ cs ++ ks.drop (off + cs.length)
theorem RowK.append {w : World} : ∀ {ks ks' : List VK} {cs cs' : List Value}, RowK ks w cs → RowK ks' w cs' → RowK (ks ++ ks') w (cs ++ cs')
  | [], _, cs, _, h, h' => by rw [show cs = [] from h]; exact h'
  | k :: ks, _, _, _, ⟨u, r, e, h1, h2⟩, h' => by subst e; exact ⟨u, r ++ _, rfl, h1, h2.append h'⟩
theorem RowK.take {w : World} : ∀ {ks : List VK} {cs : List Value} (n : Nat), RowK ks w cs → RowK (ks.take n) w (cs.take n)
  | [], cs, n, h => by rw [show cs = [] from h]; simp [RowK]
  | k :: ks, cs, 0, _ => by simp [RowK]
  | k :: ks, cs, n + 1, ⟨u, r, e, h1, h2⟩ => by subst e; exact ⟨u, r.take n, rfl, h1, h2.take n⟩
theorem RowK.drop {w : World} : ∀ {ks : List VK} {cs : List Value} (n : Nat), RowK ks w cs → RowK (ks.drop n) w (cs.drop n)
  | [], cs, n, h => by rw [show cs = [] from h]; simp [RowK]
  | k :: ks, cs, 0, h => h
  | k :: ks, cs, n + 1, ⟨u, r, e, h1, h2⟩ => by subst e; exact h2.drop n
theorem fold_set (off : Nat) : ∀ (l : List Value) (n : Nat) (arr : Array Value), off + n + l.length ≤ arr.size →
    ((l.zipIdx n).foldl (fun cs x => cs.setIfInBounds (off + x.2) x.1) arr).toList = arr.toList.take (off + n) ++ l ++ arr.toList.drop (off + n + l.length)
  | [], n, arr, h => by simp
  | x :: l, n, arr, h => by
    simp only [List.length_cons] at h
    rw [List.zipIdx_cons, List.foldl_cons, fold_set off l (n + 1) _ (by simp; omega)]
    simp only [Array.toList_setIfInBounds, List.length_cons]
    rw [List.drop_set_of_lt (by omega), show off + (n + 1) = off + n + 1 by omega, List.take_succ_eq_append_getElem (by rw [List.length_set]; simp; omega)]
    simp only [List.getElem_set_self]
    rw [List.take_set_of_le (Nat.le_refl _), show off + n + 1 + l.length = off + n + (l.length + 1) by omega]
    simp
def fillK (place : Nat → Option (Nat × Nat)) : List CK → List (Nat × Kd) → Option (List CK)
  | ks, [] => some ks
  | ks, (i, k) :: r => match place i, kcells k with
    | some (off, size), some cs => if cs.length = size ∧ off + cs.length ≤ ks.length then fillK place (splice ks off cs) r else Option.none
    | _, _ => Option.none
def PartsR (c : Ctx) (tab : Tab) (w : World) : List (Nat × Kd) → List (Nat × Value) → Prop
  | [], [] => True
  | p :: l, q :: r => (p.1 = q.1 ∧ p.2.den c tab w q.2) ∧ PartsR c tab w l r
  | _, _ => False
theorem fillK_ok {c : Ctx} {tab : Tab} {w : World} {place : Nat → Option (Nat × Nat)} : ∀ {parts : List (Nat × Kd)} {vs : List (Nat × Value)} {ks ks' : List CK} {cells : Array Value},
    fillK place ks parts = some ks' → RowK (ks.map (cden c tab)) w cells.toList → PartsR c tab w parts vs → ∃ cells' : Array Value, Instr.fill place cells vs = some cells' ∧ RowK (ks'.map (cden c tab)) w cells'.toList
  | [], [], ks, ks', cells, h, hr, _ => by cases h; exact ⟨cells, rfl, hr⟩
  | (i, k) :: parts, (_, v) :: vs, ks, ks', cells, h, hr, ⟨⟨hi, hd⟩, hrest⟩ => by
    simp only at hi hd
    subst hi
    simp only [fillK] at h
    cases hp : place i with
    | none => simp [hp] at h
    | some os =>
      obtain ⟨off, size⟩ := os
      cases hk : kcells k with
      | none => simp [hp, hk] at h
      | some cs =>
        simp only [hp, hk, Option.ite_none_right_eq_some] at h
        obtain ⟨⟨h1, h2⟩, h3⟩ := h
        obtain ⟨_, vs', hv, hr'⟩ := kcells_ok hk hd
        have hl : vs'.length = size := by rw [hr'.length]; simpa using h1
        have hcl : cells.toList.length = ks.length := by rw [hr.length]; simp
        have hfit : off + vs'.length ≤ cells.size := by rw [← Array.length_toList, hcl]; omega
        have e := fold_set off vs' 0 cells (by omega)
        simp only [Nat.add_zero] at e
        have hr2 : RowK ((splice ks off cs).map (cden c tab)) w (cells.toList.take off ++ vs' ++ cells.toList.drop (off + vs'.length)) := by
          have := ((hr.take off).append hr').append (hr.drop (off + vs'.length))
          simpa [splice, hl, h1, List.map_take, List.map_drop] using this
        rw [← e] at hr2
        obtain ⟨cells', h4, h5⟩ := fillK_ok h3 hr2 hrest
        refine ⟨cells', ?_, h5⟩
        rw [Instr.fill]
        simp only [hp, hv]
        rw [if_neg (by simp; omega)]
        rw [← h4]
        congr 1
        rw [← Array.foldl_toList]
        simp
  | [], _ :: _, _, _, _, _, _, h => h.elim
  | _ :: _, [], _, _, _, _, _, h => h.elim
theorem consts_row {c : Ctx} {tab : Tab} {w : World} : ∀ l : List Value, RowK ((l.map constK).map (cden c tab)) w l
  | [] => rfl
  | x :: l => ⟨x, l, rfl, constK_den x, consts_row l⟩
theorem parts_ok {c : Ctx} {tab : Tab} {w : World} {look : Nat → Kd} {a : Act} (h : ∀ s, (look s).den c tab w (a.eval (.tmp s))) : ∀ l : List (Nat × Operand), PartsR c tab w (l.map fun p => (p.1, kop look p.2)) (l.map fun p => (p.1, a.eval p.2))
  | [] => trivial
  | (i, x) :: l => ⟨⟨rfl, kop_den h x⟩, parts_ok h l⟩
def zeroK (z : Array Value) (n : Nat) : List CK := (List.range n).map fun j => constK (z[j % z.size]!)
theorem zeroK_row {c : Ctx} {tab : Tab} {w : World} (z : Array Value) (n : Nat) : RowK ((zeroK z n).map (cden c tab)) w ((Array.range n).map (z[· % z.size]!)).toList := by
  have : ((Array.range n).map (z[· % z.size]!)).toList = (List.range n).map (fun j => z[j % z.size]!) := by simp
  rw [this, show zeroK z n = ((List.range n).map (fun j => z[j % z.size]!)).map constK by simp [zeroK, List.map_map, Function.comp_def]]
  exact consts_row _

/-! ### Elements of a shape -/
def leRep (tab : Tab) (f : Nat) (sc : List CK) : Nat → List CK → Bool
  | 0, ks => ks.isEmpty
  | n + 1, ks => all2 (CK.le tab f) (ks.take sc.length) sc && leRep tab f sc n (ks.drop sc.length)
theorem RowK.typ {ks : List VK} {w : World} {cs : List Value} (h : RowK ks w cs) : TypL ks w 1 cs := fun q f k u hq hk hu => by
  obtain rfl : q = 0 := by omega
  exact h.at f k u hk (by simpa using hu)
theorem leRep_ok {c : Ctx} {tab : Tab} (ht : okTab tab = true) {w : World} {f : Nat} {sc : List CK} : ∀ {n : Nat} {ks : List CK} {cs : List Value}, leRep tab f sc n ks = true → RowK (ks.map (cden c tab)) w cs → TypL (sc.map (cden c tab)) w n cs ∧ cs.length = n * sc.length
  | 0, ks, cs, h, hr => by
    obtain rfl : ks = [] := by simpa [leRep] using h
    rw [show cs = [] from hr]
    exact ⟨fun q f k u hq => by omega, by simp⟩
  | n + 1, ks, cs, h, hr => by
    simp only [leRep, Bool.and_eq_true] at h
    have h1 := hr.take sc.length
    rw [← List.map_take] at h1
    have h1' := row_weaken (fun a b h v hv => le_den ht f a b h v hv) h.1 h1
    have h2 := hr.drop sc.length
    rw [← List.map_drop] at h2
    obtain ⟨h3, h4⟩ := leRep_ok ht h.2 h2
    have hl : (cs.take sc.length).length = sc.length := by rw [h1'.length]; simp
    refine ⟨?_, ?_⟩
    · have := h1'.typ.append (by simpa using hl) h3
      rw [List.take_append_drop] at this
      rwa [Nat.add_comm]
    · rw [← List.take_append_drop sc.length cs, List.length_append, hl, h4, Nat.succ_mul]; omega
/-- The shape into which elements of these kinds fit. -/
def findShape (tab : Tab) (f : Nat) (e : TypeId) (n : Nat) (ks : List CK) : Option Nat :=
  (List.range tab.length).find? fun i => (shp tab i).1 == e && flatRow (shp tab i).2 && leRep tab f (shp tab i).2 n ks
theorem findShape_ok {tab : Tab} {f : Nat} {e : TypeId} {n : Nat} {ks : List CK} {i : Nat} (h : findShape tab f e n ks = some i) : (shp tab i).1 = e ∧ flatRow (shp tab i).2 = true ∧ leRep tab f (shp tab i).2 n ks = true := by
  have := List.find?_some h
  simp only [Bool.and_eq_true, beq_iff_eq] at this
  exact ⟨this.1.1, this.1.2, this.2⟩
theorem BlkK.new' {B br t m : Nat} {e : TypeId} {ks : List VK} {w : World} {cs : Array Value} (hB : B ≤ w.heap.size) (hbr : w.heap.size ≠ br) (hm : m * ks.length ≤ cs.size) (ht : TypL ks (w.alloc (.cells cs e)) t cs.toList) : BlkK B br e ks t m (w.alloc (.cells cs e)) w.heap.size :=
  ⟨hB, hbr, cs, heap_alloc_new w _, hm, fun q f k u hq hk hu => ht q f k u hq hk (by simpa using hu)⟩
section
variable {G : Cfg} {o : Oper} {look : Nat → Kd} {lt : Nat → Nat → Bool} {ph ph' : Ph} {k : Kd} {fu : Nat}
/-- A new block of elements of a shape. -/
theorem new_block (ht : okTab G.tab = true) (hS : okSto G.tab G.S = true) {i n : Nat} {ks : List CK} {w : World} {cells : Array Value} {e : TypeId} (hi : findShape G.tab fu e n ks = some i) (hr : RowK (ks.map (cden G.c G.tab)) w cells.toList) (hI : Inv G.c G.w0 G.J ph w) (hp : ph.alloc G.J = some ph') :
    BlkK G.c.B G.c.br (tabOf G.c G.tab i).1 (tabOf G.c G.tab i).2 n n (w.alloc (.cells cells e)) w.heap.size ∧ Inv G.c G.w0 G.J ph' (w.alloc (.cells cells e)) ∧ Rel G.c G.tab G.S w (w.alloc (.cells cells e)) := by
  obtain ⟨h1, _, h2⟩ := findShape_ok hi
  obtain ⟨hI', hne⟩ := hI.grow (o := .cells cells e) hp
  obtain ⟨h3, h4⟩ := leRep_ok (c := G.c) ht h2 hr
  have htd := (tab_den (c := G.c) ht i).1
  have hrel : Rel G.c G.tab G.S w (w.alloc (.cells cells e)) := RelK.alloc w _
  refine ⟨?_, hI', hrel⟩
  rw [htd]
  simp only
  rw [h1]
  refine BlkK.new' hI.2.1 hne (by simp [← Array.length_toList, h4]) (h3.rel (S := sto G.S) (sh := stoShape G.c G.tab G.S) (fun k hk => ?_) hrel)
  obtain ⟨k0, _, rfl⟩ := List.mem_map.1 hk
  exact den_stab ht hS k0
def absBuild (P : Program) (look : Nat → Kd) (t : TypeId) (parts : Array (Nat × Operand)) : Option Kd :=
  match P.info? t, P.underlying t with
  | some it, some (.struct fields) =>
    match it.zero, fields.toList.mapM (fun f => (P.info? f.type).map fun i => (f.offset, i.size)) with
    | some z, some places => (fillK (places.toArray[·]?) (z.cells.toList.map constK) (parts.toList.map fun p => (p.1, kop look p.2))).map .ag
    | _, _ => Option.none
  | _, _ => Option.none
theorem s_build {t : TypeId} {parts : Array (Nat × Operand)} (ho : o.op = .build t parts) (hk : absBuild G.P look t parts = some k) : OpS G o look lt ph k ph .no := by
  intro a w K Q hI hl _ hK
  unfold absBuild at hk
  split at hk <;> try (cases hk; done)
  rename_i it fields e1 e2
  split at hk <;> try (cases hk; done)
  rename_i z places e3 e4
  obtain ⟨ks, h1, rfl⟩ := Option.map_eq_some_iff.1 hk
  obtain ⟨cells, h2, h3⟩ := fillK_ok h1 (consts_row (c := G.c) (tab := G.tab) (w := w) z.cells.toList) (parts_ok hl parts.toList)
  have hb : G.P.built t (parts.map fun (i, x) => (i, a.eval x)).toList = some cells := by
    simp only [Program.built, e1, e2, e3, e4]
    rw [← h2]
    simp
  refine op_val (hK (.agg cells) w ⟨cells.toList, by simp, h3⟩ (RelK.refl _) hI trivial) ?_
  simp only [execOp, ho, Sem.run_bind, run_build w t _ cells hb, Result.andThen_ok, Sem.run_pure]
def absBuildSlice (P : Program) (tab : Tab) (fu : Nat) (look : Nat → Kd) (t : TypeId) (len : Nat) (parts : Array (Nat × Operand)) : Option Kd :=
  match P.underlying t with
  | some (.slice e) =>
    match P.info? e with
    | some ie => match ie.zero with
      | some z => if 0 < ie.size ∧ len * ie.size ≤ 10000 ∧ len ≤ 10000 then
          match fillK (fun i => some (i * ie.size, ie.size)) (zeroK z.cells (len * ie.size)) (parts.toList.map fun p => (p.1, kop look p.2)) with
          | some ks => match findShape tab fu e len ks with
            | some i => some (.ck (.sl i len len))
            | _ => Option.none
          | _ => Option.none
        else Option.none
      | _ => Option.none
    | _ => Option.none
  | _ => Option.none
theorem s_buildSlice (ht : okTab G.tab = true) (hS : okSto G.tab G.S = true) {t : TypeId} {len : Nat} {parts : Array (Nat × Operand)} (ho : o.op = .buildSlice t len parts) (hk : absBuildSlice G.P G.tab fu look t len parts = some k) (e6 : ph.alloc G.J = some ph') : OpS G o look lt ph k ph' .no := by
  intro a w K Q hI hl _ hK
  unfold absBuildSlice at hk
  split at hk <;> try (cases hk; done)
  rename_i e e1
  split at hk <;> try (cases hk; done)
  rename_i ie e2
  split at hk <;> try (cases hk; done)
  rename_i z e3
  split at hk <;> try (cases hk; done)
  rename_i hc
  split at hk <;> try (cases hk; done)
  rename_i ks e4
  split at hk <;> try (cases hk; done)
  rename_i i e5
  cases hk
  obtain ⟨cells, h2, h3⟩ := fillK_ok e4 (zeroK_row (c := G.c) (tab := G.tab) (w := w) z.cells (len * ie.size)) (parts_ok hl parts.toList)
  obtain ⟨h4, h5, h6⟩ := new_block (cells := cells) ht hS e5 h3 hI e6
  refine op_val (hK (.slice (some ⟨w.heap.size, 0, Option.none⟩) len len) _ ⟨.inr ⟨w.heap.size, 0, len, len, by simp, Nat.le_refl _, Nat.le_refl _, by omega, by simpa using h4⟩, _, _, _, rfl, Nat.le_refl _⟩ h6 h5 trivial) ?_
  have h2' : Instr.fill (fun i => some (i * ie.size, ie.size)) ((Array.range (len * ie.size)).map (z.cells[· % z.cells.size]!)) (parts.map fun (i, x) => (i, a.eval x)).toList = some cells := by
    rw [← h2]; simp
  by_cases h0 : len * ie.size = 0
  · rw [h0, Array.range_zero'] at h2'
    simp only [List.map_toArray, List.map_nil] at h2'
    have hr2 : (Instr.buildSlice t len (parts.map fun (i, x) => (i, a.eval x))).run G.P w = .ok (.slice (some ⟨w.heap.size, 0, Option.none⟩) len len) (w.alloc (.cells cells e)) := by
      simp at h2'
      simp [Instr.buildSlice, run_underlying e1, sizeOf, typeInfo, e2, h0, newRow, h2', Array.range_zero']
    simp only [execOp, ho, Sem.run_bind, hr2, Result.andThen_ok, Sem.run_pure]
  · simp only [execOp, ho, Sem.run_bind, run_buildSlice w t e len _ cells ie z e1 e2 e3 (by omega) h0 h2', Result.andThen_ok, Sem.run_pure]
def absBox (tab : Tab) (fu : Nat) (e : TypeId) (kx : Kd) : Option Kd :=
  match kcells kx with
  | some ks => match findShape tab fu e 1 ks with
    | some i => some (.ck (.ptr i 0))
    | _ => Option.none
  | _ => Option.none
theorem box_ok (ht : okTab G.tab = true) (hS : okSto G.tab G.S = true) {a : Act} {w : World} {K : Act → World → Prop} {Q : Exit → Act → World → Prop} {e : TypeId} {kx : Kd} {v : Value} (hk : absBox G.tab fu e kx = some k) (e6 : ph.alloc G.J = some ph') (hv : kx.den G.c G.tab w v) (hI : Inv G.c G.w0 G.J ph w)
    (hr : (execOp a.eval o).run G.P w = .ok (.value (.pointer (some ⟨w.heap.size, 0, Option.none⟩))) (w.alloc (.cells v.cells e)))
    (hK : ∀ v w', k.den G.c G.tab w' v → Rel G.c G.tab G.S w w' → Inv G.c G.w0 G.J ph' w' → K (a.put o.dst v) w') : o.wp G.P a w K Q := by
  unfold absBox at hk
  split at hk <;> try (cases hk; done)
  rename_i ks e4
  split at hk <;> try (cases hk; done)
  rename_i i e5
  cases hk
  obtain ⟨_, cs, h1, h2⟩ := kcells_ok e4 hv
  obtain ⟨h4, h5, h6⟩ := new_block (cells := v.cells) ht hS e5 (by rw [h1]; exact h2) hI e6
  exact op_val (hK _ _ ⟨w.heap.size, 0, by simp, by simpa using h4⟩ h6 h5) hr
theorem s_box (ht : okTab G.tab = true) (hS : okSto G.tab G.S = true) {e : TypeId} {x : Operand} (ho : o.op = .box e x) (hk : absBox G.tab fu e (kop look x) = some k) (e6 : ph.alloc G.J = some ph') : OpS G o look lt ph k ph' .no := by
  intro a w K Q hI hl _ hK
  exact box_ok ht hS hk e6 (kop_den hl x) hI (by simp [execOp, ho, Instr.box, newVar, newRow]) (fun v w' h1 h2 h3 => hK v w' h1 h2 h3 trivial)
def absAlloc (P : Program) (tab : Tab) (fu : Nat) (e : TypeId) : Option Kd :=
  match P.info? e with
  | some ie => match ie.zero with
    | some (.agg cs) => absBox tab fu e (.ag (cs.toList.map constK))
    | some z => absBox tab fu e (.ck (constK z))
    | _ => Option.none
  | _ => Option.none
theorem s_alloc (ht : okTab G.tab = true) (hS : okSto G.tab G.S = true) {e : TypeId} (ho : o.op = .alloc e) (hk : absAlloc G.P G.tab fu e = some k) (e6 : ph.alloc G.J = some ph') : OpS G o look lt ph k ph' .no := by
  intro a w K Q hI hl _ hK
  unfold absAlloc at hk
  split at hk <;> try (cases hk; done)
  rename_i ie e1
  split at hk <;> try (cases hk; done)
  · rename_i cs e2
    exact box_ok (v := .agg cs) ht hS hk e6 ⟨cs.toList, by simp, consts_row _⟩ hI (by simp [execOp, ho, Instr.alloc, zeroValue, typeInfo, e1, e2, newVar, newRow]) (fun v w' h1 h2 h3 => hK v w' h1 h2 h3 trivial)
  · rename_i z _ e2
    exact box_ok (v := z) ht hS hk e6 (constK_den z) hI (by simp [execOp, ho, Instr.alloc, zeroValue, typeInfo, e1, e2, newVar, newRow]) (fun v w' h1 h2 h3 => hK v w' h1 h2 h3 trivial)
def absMake (P : Program) (tab : Tab) (fu : Nat) (t : TypeId) (kl kc : Kd) : Option Kd :=
  match kl, kc with
  | .one (.c (.int .i64 n n1)), .one (.c (.int .i64 m m1)) => if n = n1 ∧ m = n ∧ m1 = n ∧ 0 ≤ n ∧ n ≤ 1000 then
    match P.underlying t with
    | some (.slice e) => match P.info? e with
      | some ie => match ie.zero with
        | some z => if ie.bytes ≤ 1000 ∧ ie.size ≤ 100 then match findShape tab fu e n.toNat (zeroK z.cells (n.toNat * ie.size)) with
            | some i => some (.ck (.sl i n.toNat n.toNat))
            | _ => Option.none
          else Option.none
        | _ => Option.none
      | _ => Option.none
    | _ => Option.none
    else Option.none
  | _, _ => Option.none
theorem s_make (ht : okTab G.tab = true) (hS : okSto G.tab G.S = true) {t : TypeId} {x y : Operand} (ho : o.op = .makeSlice t x y) (hk : absMake G.P G.tab fu t (kop look x) (kop look y) = some k) (e6 : ph.alloc G.J = some ph') : OpS G o look lt ph k ph' .no := by
  intro a w K Q hI hl _ hK
  have hx := kop_den hl x
  have hy := kop_den hl y
  unfold absMake at hk
  split at hk <;> try (cases hk; done)
  rename_i n n1 m m1 ex ey
  rw [ex] at hx; rw [ey] at hy
  split at hk <;> try (cases hk; done)
  rename_i hc
  obtain ⟨c1, c2, c3, hn0, hn1⟩ := hc
  split at hk <;> try (cases hk; done)
  rename_i e e1
  split at hk <;> try (cases hk; done)
  rename_i ie e2
  split at hk <;> try (cases hk; done)
  rename_i z e3
  split at hk <;> try (cases hk; done)
  rename_i hb
  split at hk <;> try (cases hk; done)
  rename_i i e5
  cases hk
  obtain ⟨p, vx, p1, p2⟩ := hx
  obtain ⟨q, vy, q1, q2⟩ := hy
  obtain rfl : p = n := by omega
  obtain rfl : q = p := by omega
  obtain ⟨h4, h5, h6⟩ := new_block (cells := madeCells z.cells (q.toNat * ie.size)) ht hS e5 (zeroK_row z.cells _) hI e6
  refine op_val (hK (.slice (some ⟨w.heap.size, 0, Option.none⟩) q.toNat q.toNat) _ ⟨.inr ⟨w.heap.size, 0, q.toNat, q.toNat, by simp, Nat.le_refl _, Nat.le_refl _, by omega, by simpa using h4⟩, _, _, _, rfl, Nat.le_refl _⟩ h6 h5 trivial) ?_
  have hbb : (ie.bytes : Int) * q ≤ 1000 * 1000 := Int.mul_le_mul (by omega) hn1 hn0 (by omega)
  have hcc : q.toNat * ie.size ≤ 1000 * 100 := Nat.mul_le_mul (by omega) hb.2
  have := run_makeSlice (P := G.P) w t e ie z e1 e2 e3 .i64 .i64 q q hn0 (Int.le_refl _) (by omega) (by omega) (by omega)
  simp [execOp, ho, vx, vy, this]
/-! ### Reading and writing -/
def rowT (P : Program) (t : TypeId) : Option Bool := match P.underlying t with
  | some (.struct _) => some true
  | some (.array _ _) => Option.none
  | some _ => some false
  | Option.none => Option.none
def absLoad (P : Program) (tab : Tab) (t : TypeId) (ka : Kd) : Option Kd :=
  match ka with
  | .one (.c (.ptr i off)) => match rowT P t, P.info? t with
    | some true, some it => if off + it.size ≤ (shp tab i).2.length then some (.ag (((shp tab i).2.drop off).take it.size)) else Option.none
    | some false, some _ => ((shp tab i).2[off]?).map .ck
    | _, _ => Option.none
  | _ => Option.none
theorem load_run (ht : okTab G.tab = true) {t : TypeId} {w : World} {u0 : Value} {kx : Kd} (hk : absLoad G.P G.tab t kx = some k) (hx : kx.den G.c G.tab w u0) : ∃ A v, u0 = .pointer (some A) ∧ (loadVar t A).run G.P w = .ok v w ∧ k.den G.c G.tab w v := by
  unfold absLoad at hk
  split at hk <;> try (cases hk; done)
  rename_i i off
  obtain ⟨g, q, vx, hb⟩ := hx
  have htd := (tab_den (c := G.c) ht i).1
  have hlen : (tabOf G.c G.tab i).2.length = (shp G.tab i).2.length := by rw [htd]; simp
  have hcell : ∀ (j : Nat) k0, (shp G.tab i).2[j]? = some k0 → ∃ u, w.cell? ⟨g, q * (tabOf G.c G.tab i).2.length + j, Option.none⟩ = some u ∧ cden G.c G.tab k0 w u := fun j k0 hj => by
    have : (tabOf G.c G.tab i).2[j]? = some (cden G.c G.tab k0) := by rw [htd]; simp [hj, cden]
    exact hb.cell (Nat.le_refl _) (Nat.lt_succ_self _) this
  split at hk <;> try (cases hk; done)
  · rename_i it e1 e2
    split at hk <;> try (cases hk; done)
    rename_i hfit
    cases hk
    have hrow : ∀ (n : Nat) (off : Nat), off + n ≤ (shp G.tab i).2.length → ∃ cs : List Value, RowK ((((shp G.tab i).2.drop off).take n).map (cden G.c G.tab)) w cs ∧ w.rangeAt g (q * (tabOf G.c G.tab i).2.length + off) cs := by
      intro n
      induction n with
      | zero => intro off _; exact ⟨[], by simp [RowK], fun j v hv => by simp at hv⟩
      | succ n ih =>
        intro off hle
        obtain ⟨cs, h1, h2⟩ := ih (off + 1) (by omega)
        obtain ⟨u, h3, h4⟩ := hcell off ((shp G.tab i).2[off]) (List.getElem?_eq_getElem (by omega))
        refine ⟨u :: cs, ?_, ?_⟩
        · rw [List.drop_eq_getElem_cons (by omega), List.take_succ_cons, List.map_cons]
          exact ⟨u, cs, rfl, h4, h1⟩
        · intro j v hv
          cases j with
          | zero => simp at hv; subst hv; simpa using h3
          | succ j =>
            have := h2 j v (by simpa using hv)
            rwa [show q * (tabOf G.c G.tab i).2.length + (off + 1) + j = q * (tabOf G.c G.tab i).2.length + off + (j + 1) by omega] at this
    obtain ⟨cs, h1, h2⟩ := hrow it.size off hfit
    have hcl : cs.length = it.size := by rw [h1.length]; simp; omega
    unfold rowT at e1
    split at e1 <;> try (cases e1; done)
    rename_i fs e3
    exact ⟨_, .agg cs.toArray, vx, run_loadVar_mid w g _ t cs _ h2 e3 rfl (by rw [e2]; simp [hcl]), cs, rfl, h1⟩
  · rename_i it e1 e2
    obtain ⟨k0, h1, rfl⟩ := Option.map_eq_some_iff.1 hk
    obtain ⟨u, h3, h4⟩ := hcell off k0 h1
    refine ⟨_, u, vx, ?_, h4⟩
    unfold rowT at e1
    split at e1 <;> try (cases e1; done)
    rename_i d _ _ e3
    have hagg : (isAgg t).run G.P w = .ok false w := by
      unfold isAgg
      rw [Sem.run_bind, run_underlying e3 w]
      cases d <;> simp_all
    simp [loadVar, Sem.run_bind, hagg, h3]
theorem s_load (ht : okTab G.tab = true) {t : TypeId} {x : Operand} (ho : o.op = .load t x) (hk : absLoad G.P G.tab t (kop look x) = some k) : OpS G o look lt ph k ph .no := by
  intro a w K Q hI hl _ hK
  obtain ⟨A, v, h1, h2, h3⟩ := load_run ht hk (kop_den hl x)
  exact op_val (hK v w h3 (RelK.refl _) hI trivial) (by simp [execOp, ho, h1, Instr.loadAt, Instr.sureAddr, h2])
def absStore (P : Program) (tab : Tab) (S : Sto) (fu : Nat) (t : TypeId) (ka kv : Kd) : Bool :=
  match ka with
  | .one (.c (.ptr i off)) => match P.info? t, kcells kv with
    | some it, some ks => decide (ks.length = it.size) && decide (off + ks.length ≤ (shp tab i).2.length) && all2 (CK.le tab fu) ks (((shp tab i).2.drop off).take ks.length) && (S.lookup (shp tab i).1 == some i)
    | _, _ => false
  | _ => false
theorem s_store (ht : okTab G.tab = true) {t : TypeId} {x y : Operand} (ho : o.op = .store t x y) (hk : absStore G.P G.tab G.S fu t (kop look x) (kop look y) = true) : OpS G o look lt ph (.ck .any) ph .no := by
  intro a w K Q hI hl _ hK
  have hx := kop_den hl x
  have hy := kop_den hl y
  unfold absStore at hk
  split at hk <;> try (cases hk; done)
  rename_i i off ex
  rw [ex] at hx
  obtain ⟨g, q, vx, hb⟩ := hx
  split at hk <;> try (cases hk; done)
  rename_i it ks e2 e3
  simp only [Bool.and_eq_true, decide_eq_true_eq, beq_iff_eq] at hk
  obtain ⟨⟨⟨h1, h2⟩, h3⟩, h4⟩ := hk
  obtain ⟨hf, cs, hcs, hr⟩ := kcells_ok e3 hy
  have htd := (tab_den (c := G.c) ht i).1
  have hlen : (tabOf G.c G.tab i).2.length = (shp G.tab i).2.length := by rw [htd]; simp
  have hcl : cs.length = ks.length := by rw [hr.length]; simp
  have hr2 := row_weaken (fun a b h v hv => le_den ht fu a b h v hv) h3 hr
  have hT : (tabOf G.c G.tab i).1 = (shp G.tab i).1 := by rw [htd]
  have hSt : sto G.S (tabOf G.c G.tab i).1 = true := by simp [sto, hT, h4]
  have hsh : stoShape G.c G.tab G.S (tabOf G.c G.tab i).1 = (tabOf G.c G.tab i).2 := by simp [stoShape, hT, h4]
  have hrel : Rel G.c G.tab G.S w (setCells w g (q * (tabOf G.c G.tab i).2.length + off) cs) := RelK.store hb hSt hsh (Nat.lt_succ_self _) (by omega) (fun j k0 u hj hu => by
    rw [htd] at hj
    simp only [List.getElem?_map] at hj
    obtain ⟨k1, hj1, rfl⟩ := Option.map_eq_some_iff.1 hj
    have hju : j < cs.length := (List.getElem?_eq_some_iff.1 hu).1
    refine hr2.at j _ u ?_ hu
    rw [List.getElem?_map, List.getElem?_take_of_lt (by omega), List.getElem?_drop, hj1]
    rfl)
  have hg := setCells_grown g cs w (q * (tabOf G.c G.tab i).2.length + off)
  have hI' := hI.cells (g := 0) hg (fun k e => by cases e; exact ⟨hb.1, hb.2.1⟩) (setCells_size g cs w _)
  have hthere : w.there g (q * (tabOf G.c G.tab i).2.length + off) cs.length := fun j hj => by
    have hfree := hb.free (q * (tabOf G.c G.tab i).2.length + off + j)
    refine ⟨?_, hfree⟩
    have hjl : off + j < (shp G.tab i).2.length := by omega
    have : (tabOf G.c G.tab i).2[off + j]? = some (cden G.c G.tab ((shp G.tab i).2[off + j])) := by rw [htd]; simp [List.getElem?_eq_getElem hjl, cden]
    obtain ⟨u, hu, _⟩ := hb.cell (Nat.le_refl _) (Nat.lt_succ_self q) this
    rw [Nat.add_assoc, hu]; rfl
  have hrun : (Instr.storeAt t (.pointer (some ⟨g, q * (tabOf G.c G.tab i).2.length + off, Option.none⟩)) (a.eval y)).run G.P w = .ok () (setCells w g (q * (tabOf G.c G.tab i).2.length + off) cs) := by
    have := run_storeCells_cells (P := G.P) g (q * (tabOf G.c G.tab i).2.length + off) cs 0 w (fun j hj => by simpa using (hthere j hj).1) (fun j hj => by simpa using (hthere j hj).2) (flat_one hf hr)
    rw [setCells_eq]
    simp only [Nat.add_zero] at this
    have hsz : ¬ ((a.eval y).cells.size ≠ it.size) := by rw [hcs]; simp; omega
    have hl2 : (a.eval y).cells.toList = cs := by rw [hcs]
    simp [Instr.storeAt, Instr.sureAddr, storeVar, sizeOf, typeInfo, e2, hcs, this]
    omega
  have := hK undef _ trivial hrel hI' trivial
  unfold Oper.wp
  have he : (execOp a.eval o).run G.P w = .ok .skip (setCells w g (q * (tabOf G.c G.tab i).2.length + off) cs) := by
    simp [execOp, ho, vx, hrun]
  rw [he]
  exact this
def absFieldAddr (P : Program) (s : TypeId) (f : Nat) (kx : Kd) : Option Kd :=
  match kx, P.underlying s with
  | .one (.c (.ptr i off)), some (.struct fields) => match fields[f]? with
    | some fd => match P.info? fd.type with
      | some it => if it.size = 0 then Option.none else some (.ck (.ptr i (off + fd.offset)))
      | _ => Option.none
    | _ => Option.none
  | _, _ => Option.none
theorem s_fieldAddr {s : TypeId} {f : Nat} {x : Operand} (ho : o.op = .fieldAddr s x f) (hk : absFieldAddr G.P s f (kop look x) = some k) : OpS G o look lt ph k ph .no := by
  intro a w K Q hI hl _ hK
  have hx := kop_den hl x
  unfold absFieldAddr at hk
  split at hk <;> try (cases hk; done)
  rename_i i off fields ex e1
  rw [ex] at hx
  obtain ⟨g, q, vx, hb⟩ := hx
  split at hk <;> try (cases hk; done)
  rename_i fd e2
  split at hk <;> try (cases hk; done)
  rename_i it e3
  split at hk <;> try (cases hk; done)
  rename_i h0
  cases hk
  refine op_val (hK (.pointer (some ⟨g, q * (tabOf G.c G.tab i).2.length + (off + fd.offset), Option.none⟩)) w ⟨g, q, rfl, hb⟩ (RelK.refl _) hI trivial) ?_
  simp [execOp, ho, vx, Instr.fieldAt, Instr.sureAddr, run_underlying e1, e2, fieldPlace, sizeOf, typeInfo, e3, h0, Addr.add, Nat.add_assoc]
def absIndexAddr (P : Program) (tab : Tab) (lt : Bool) (t : TypeId) (kx ki : Kd) : Option Kd :=
  match kx, ki, P.underlying t with
  | .one (.c (.sl i lo hi)), .one (.c (.int .i64 l h)), some (.slice e) => match P.info? e with
    | some ie => if ie.size = (shp tab i).2.length ∧ ((0 ≤ l ∧ h < lo) ∨ lt = true) then some (.ck (.ptr i 0)) else Option.none
    | _ => Option.none
  | _, _, _ => Option.none
def ltOp (lt : Nat → Nat → Bool) : Operand → Operand → Bool
  | .tmp x, .tmp s => lt x s
  | _, _ => false
theorem s_indexAddr (ht : okTab G.tab = true) {t : TypeId} {x ix : Operand} (ho : o.op = .indexAddr t x ix) (hk : absIndexAddr G.P G.tab (ltOp lt ix x) t (kop look x) (kop look ix) = some k) : OpS G o look lt ph k ph .no := by
  intro a w K Q hI hl hlt hK
  have hx := kop_den hl x
  have hy := kop_den hl ix
  unfold absIndexAddr at hk
  split at hk <;> try (cases hk; done)
  rename_i i lo hi l h e ex ey e1
  rw [ex] at hx; rw [ey] at hy
  split at hk <;> try (cases hk; done)
  rename_i ie e2
  split at hk <;> try (cases hk; done)
  rename_i hc
  cases hk
  obtain ⟨m, vy, m1, m2⟩ := hy
  obtain ⟨hs, A, n, q, vx, hn⟩ := hx
  have htd := (tab_den (c := G.c) ht i).1
  have hlen : (tabOf G.c G.tab i).2.length = (shp G.tab i).2.length := by rw [htd]; simp
  have hin : 0 ≤ m ∧ m < n := by
    rcases hc.2 with h1 | h1
    · omega
    · unfold ltOp at h1
      split at h1
      · obtain ⟨A', n', q', m', e3, e4, h5⟩ := hlt _ _ h1
        rw [vx] at e3; rw [vy] at e4
        cases e3; cases e4
        exact h5
      · cases h1
  rcases hs with hs | ⟨g, o', n', q', hs, h1, h2, h3, h4⟩
  · rw [vx] at hs; cases hs; omega
  · rw [vx] at hs
    cases hs
    refine op_val (hK (.pointer (some ⟨g, (o' + m.toNat) * (tabOf G.c G.tab i).2.length + 0, Option.none⟩)) w ⟨g, o' + m.toNat, rfl, h4.le (by omega) (by omega)⟩ (RelK.refl _) hI trivial) ?_
    have hi2 := hin
    simp [execOp, ho, vx, vy, Instr.indexAt, run_underlying e1, asIntOf, sizeOf, typeInfo, e2, Addr.add, hin, hc.1, hlen, Nat.add_mul]
def absSlice (P : Program) (tab : Tab) (t : TypeId) (kx kl : Kd) : Option Kd :=
  match kx, kl, P.underlying t with
  | .one (.c (.sl i lo hi)), .one (.c (.int .i64 l h)), some (.slice e) => match P.info? e with
    | some ie => if ie.size = (shp tab i).2.length ∧ 0 ≤ l ∧ l = h ∧ l ≤ lo then some (.ck (.sl i (lo - l.toNat) (hi - l.toNat))) else Option.none
    | _ => Option.none
  | _, _, _ => Option.none
theorem s_slice (ht : okTab G.tab = true) {t : TypeId} {x l : Operand} (ho : o.op = .slice t x (some l) Option.none Option.none) (hk : absSlice G.P G.tab t (kop look x) (kop look l) = some k) : OpS G o look lt ph k ph .no := by
  intro a w K Q hI hl hlt hK
  have hx := kop_den hl x
  have hy := kop_den hl l
  unfold absSlice at hk
  split at hk <;> try (cases hk; done)
  rename_i i lo hi l0 h0 e ex ey e1
  rw [ex] at hx; rw [ey] at hy
  split at hk <;> try (cases hk; done)
  rename_i ie e2
  split at hk <;> try (cases hk; done)
  rename_i hc
  cases hk
  obtain ⟨m, vy, m1, m2⟩ := hy
  obtain ⟨hs, A, n, q, vx, hn⟩ := hx
  have htd := (tab_den (c := G.c) ht i).1
  have hlen : (tabOf G.c G.tab i).2.length = (shp G.tab i).2.length := by rw [htd]; simp
  obtain ⟨c1, c2, rfl, c4⟩ := hc
  obtain rfl : m = l0 := by omega
  have hrun : ∀ A n q, m.toNat ≤ n → (Instr.sliceAt t (.slice A n q) (some (.int .i64 m)) Option.none Option.none).run G.P w = .ok (.slice (if q = m.toNat then A else A.map (·.add (m.toNat * ie.size))) (n - m.toNat) (q - m.toNat)) w := fun A n q h => by
    have h2 : 0 ≤ m ∧ m ≤ (n : Int) := by omega
    simp [Instr.sliceAt, run_underlying e1, Instr.slice, Instr.sliceBounds, Instr.sliceBound, asIntOf, h2, sizeOf, typeInfo, e2]
  rcases hs with hs | ⟨g, o', n', q', hs, h1, h2, h3, h4⟩
  · rw [vx] at hs; cases hs
    have hm0 : m.toNat = 0 := by omega
    have hr := hrun Option.none 0 0 (by omega)
    rw [hm0] at hr
    refine op_val (hK (.slice Option.none 0 0) w ⟨SlK.nil, _, _, _, rfl, by omega⟩ (RelK.refl _) hI trivial) ?_
    simp [execOp, ho, vx, vy, hr]
  · rw [vx] at hs
    cases hs
    have hr := hrun (some ⟨g, o' * (tabOf G.c G.tab i).2.length, Option.none⟩) n q (by omega)
    refine op_val (v := .slice (if q = m.toNat then some ⟨g, o' * (tabOf G.c G.tab i).2.length, Option.none⟩ else (some (⟨g, o' * (tabOf G.c G.tab i).2.length, Option.none⟩ : Addr)).map (·.add (m.toNat * ie.size))) (n - m.toNat) (q - m.toNat)) (hK _ w ⟨.inr ?_, _, _, _, rfl, by omega⟩ (RelK.refl _) hI trivial) (by simp [execOp, ho, vx, vy, hr])
    by_cases hq : q = m.toNat
    · refine ⟨g, o', n - m.toNat, q - m.toNat, by rw [if_pos hq], by omega, by omega, by omega, h4.le (by omega) (by omega)⟩
    · refine ⟨g, o' + m.toNat, n - m.toNat, q - m.toNat, ?_, by omega, by omega, by omega, h4.le (by omega) (by omega)⟩
      rw [if_neg hq]
      simp [Addr.add, Nat.add_mul, c1, hlen]
end
end Go.Proofs.YtodjokdaofefdaaGreat
