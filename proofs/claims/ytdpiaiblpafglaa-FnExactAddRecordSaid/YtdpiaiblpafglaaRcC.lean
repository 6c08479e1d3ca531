/- Records: how a slice of them reads. -/
import Derived.Test.YtdpiaiblpafglaaRcB
import Derived.Test.YtdpiaiblpafglaaFdT
import Derived.Test.YtdpiaiblpafglaaKi5
namespace Go.Proofs.Ytdpiaiblpafglaa
set_option linter.unusedSimpArgs false
set_option linter.unusedVariables false
open Go.RowKit

abbrev Fd := ByteArray × Int × Int
abbrev FdL := List Fd
abbrev Rc := Int × Int × Int × Int × FdL × Bool × Int
abbrev RcL := List Rc
abbrev Rq := Int × Int × Int × FdL
instance decRq1 : DecidableEq (Int × FdL) := inferInstance
instance decRq : DecidableEq Rq := @instDecidableEqProd Int (Int × Int × FdL) _ (@instDecidableEqProd Int (Int × FdL) _ decRq1)
instance decRc0 : DecidableEq (FdL × Bool × Int) := inferInstance
instance decRc1 : DecidableEq (Int × FdL × Bool × Int) := @instDecidableEqProd Int (FdL × Bool × Int) _ decRc0
instance decRc2 : DecidableEq (Int × Int × FdL × Bool × Int) := @instDecidableEqProd Int (Int × FdL × Bool × Int) _ decRc1
instance decRc3 : DecidableEq (Int × Int × Int × FdL × Bool × Int) := @instDecidableEqProd Int (Int × Int × FdL × Bool × Int) _ decRc2
instance decRc : DecidableEq Rc := @instDecidableEqProd Int (Int × Int × Int × FdL × Bool × Int) _ decRc3
def rtm (r : Rc) : Int := r.1
def rwho (r : Rc) : Int := r.2.1
def ract (r : Rc) : Int := r.2.2.1
def rwhat (r : Rc) : Int := r.2.2.2.1
def rfs (r : Rc) : FdL := r.2.2.2.2.1
def ral (r : Rc) : Bool := r.2.2.2.2.2.1
def rsl (r : Rc) : Int := r.2.2.2.2.2.2
theorem rc_eta (r : Rc) : r = (rtm r, rwho r, ract r, rwhat r, rfs r, ral r, rsl r) := rfl
theorem rc_ext {a b : Rc} (h0 : rtm a = rtm b) (h1 : rwho a = rwho b) (h2 : ract a = ract b) (h3 : rwhat a = rwhat b) (h4 : rfs a = rfs b) (h5 : ral a = ral b) (h6 : rsl a = rsl b) : a = b := by
  rw [rc_eta a, rc_eta b, h0, h1, h2, h3, h4, h5, h6]
/-- The cells of a record, whose fields' slice is v. -/
def rcCells (r : Rc) (v : Value) : List Value := [.int .i64 (rtm r), .int .i64 (rwho r), .int .i64 (ract r), .int .i64 (rwhat r), v, .bool (ral r), .int .i64 (rsl r)]
/-- A record as it reads, in blocks below B0. -/
def RcR (B0 : Nat) (w : World) (r : Rc) (cs : List Value) : Prop := ∃ A c, cs = rcCells r (.slice A (rfs r).length c) ∧ fdR w A (rfs r) ∧ (0 < (rfs r).length → ∀ a, A = some a → a.block < B0)
/-- A record whose fields lie in a row of its own. -/
def RcO (B : Nat) (w : World) (r : Rc) (cs : List Value) : Prop := ∃ v, cs = rcCells r v ∧ OwnA B 85 3 fdEnc w v (rfs r)
theorem fdR.lt {w : World} {A : Option Addr} {l : FdL} (h : fdR w A l) (hn : 0 < l.length) (a : Addr) (ha : A = some a) : a.block < w.heap.size := by
  obtain ⟨b, off, e, hc⟩ := h.cells hn
  subst ha
  simp only [Option.some.injEq] at e
  subst e
  have h0 := block_lt_of_cell (hc 0 hn).1
  simpa using h0
theorem fdR.belowB {B0 : Nat} {w w' : World} {A : Option Addr} {l : FdL} (h : fdR w A l) (hlt : 0 < l.length → ∀ a, A = some a → a.block < B0) (hb : ∀ k, k < B0 → w'.heap[k]? = w.heap[k]?) : fdR w' A l := by
  refine ⟨h.1, fun hn => ?_⟩
  obtain ⟨b, off, e, hc⟩ := h.2 hn
  refine ⟨b, off, e, fun k hk => ?_⟩
  obtain ⟨cs, h1, h2, h3⟩ := hc k hk
  refine ⟨cs, h1, h2, fun j v hv => ?_⟩
  have h4 := h3 j v hv
  have h5 := hlt hn _ e
  rw [← h4]
  exact World.cell?_of_block (hb _ h5)
theorem RcR.belowB {B0 : Nat} {w w' : World} {r : Rc} {cs : List Value} (h : RcR B0 w r cs) (hb : ∀ k, k < B0 → w'.heap[k]? = w.heap[k]?) : RcR B0 w' r cs := by
  obtain ⟨A, c, h1, h2, h3⟩ := h
  exact ⟨A, c, h1, h2.belowB h3 hb, h3⟩
theorem RcR.mono (B0 : Nat) {w w' : World} (hB : B0 ≤ w.heap.size) (hb : Below w.heap.size w w') (r : Rc) (cs : List Value) (h : RcR B0 w r cs) : RcR B0 w' r cs := h.belowB (fun k hk => hb.block k (by omega))
theorem RcR.up {B0 B1 : Nat} {w : World} {r : Rc} {cs : List Value} (h : RcR B0 w r cs) (hB : B0 ≤ B1) : RcR B1 w r cs := by
  obtain ⟨A, c, h1, h2, h3⟩ := h
  exact ⟨A, c, h1, h2, fun hn a ha => Nat.lt_of_lt_of_le (h3 hn a ha) hB⟩
theorem RcR.one {B0 : Nat} {w : World} {r : Rc} {cs : List Value} (h : RcR B0 w r cs) : ∀ u ∈ cs, u.oneCell' = true := by
  obtain ⟨A, c, rfl, _⟩ := h
  intro u hu
  simp [rcCells] at hu
  rcases hu with rfl | rfl | rfl | rfl | rfl | rfl | rfl <;> rfl
theorem RcO.one {B : Nat} {w : World} {r : Rc} {cs : List Value} (h : RcO B w r cs) : ∀ u ∈ cs, u.oneCell' = true := by
  obtain ⟨v, rfl, A, c, rfl, _⟩ := h
  intro u hu
  simp [rcCells] at hu
  rcases hu with rfl | rfl | rfl | rfl | rfl | rfl | rfl <;> rfl
theorem RcO.rd {B : Nat} {w : World} {r : Rc} {cs : List Value} (h : RcO B w r cs) (hn : (rfs r).length ≤ 9223372036854775807) : RcR w.heap.size w r cs := by
  obtain ⟨v, rfl, ho⟩ := h
  obtain ⟨A, c, rfl, hr⟩ := OwnA.rd (enc := fdEnc) (sz := 3) (fun _ => rfl) hn ho
  exact ⟨A, c, rfl, hr, fun h0 a ha => fdR.lt hr h0 a ha⟩
theorem RcO.below {B : Nat} {w w' : World} (hb : Below w.heap.size w w') (r : Rc) (cs : List Value) (h : RcO B w r cs) : RcO B w' r cs := let ⟨v, h1, h2⟩ := h; ⟨v, h1, h2.below hb⟩
theorem RcO.lower {B B' : Nat} {w : World} (hB : B' ≤ B) (r : Rc) (cs : List Value) (h : RcO B w r cs) : RcO B' w r cs := let ⟨v, h1, h2⟩ := h; ⟨v, h1, h2.lower hB⟩
/-- Only rows of records turn: fields stay. -/
theorem RcO.row {B : Nat} {w w' : World} {row : Option Nat} (hg : w.grownBy w' row) (hrow : ∀ k, row = some k → ∃ cs fr, w.heap[k]? = some (.cells cs 27 fr)) (r : Rc) (cs : List Value) (h : RcO B w r cs) : RcO B w' r cs := by
  obtain ⟨v, h1, A, c, rfl, ho⟩ := h
  refine ⟨_, h1, A, c, rfl, own_apart_ ho hg (fun k hk e => ?_)⟩
  obtain ⟨cs, fr, hx⟩ := hrow k e
  rcases ho.2 with ⟨h1, _⟩ | ⟨g2, cap, cur, hv, _, hx2, _⟩
  · rw [h1] at hk; cases hk
  · rw [hv] at hk
    simp only [Value.ownBlock, Option.some.injEq] at hk
    subst hk
    rw [hx] at hx2
    simp only [Option.some.injEq, Obj.cells.injEq] at hx2
    exact absurd hx2.2.1 (by decide)
/-- The slice with the address A reads as the records l. -/
def rcR (w : World) (A : Option Addr) (l : RcL) : Prop := RdL (RcR w.heap.size) 7 w A l
theorem RdL.mono {α : Type} {R R' : World → α → List Value → Prop} {sz : Nat} {w w' : World} {A : Option Addr} {l : List α} (h : RdL R sz w A l) (hb : Below w.heap.size w w') (hR : ∀ a cs, R w a cs → R' w' a cs) : RdL R' sz w' A l :=
  ⟨h.1, fun hn => let ⟨b, off, e, hc⟩ := h.2 hn; ⟨b, off, e, fun k hk => let ⟨cs, h1, h2, h3⟩ := hc k hk; ⟨cs, h1, hR _ _ h2, fun j v hv => below_cell hb (h3 j v hv)⟩⟩⟩
theorem chunks_mem {α : Type} {R : α → List Value → Prop} {p : α → Prop} {sz : Nat} {l : List α} {xs : List Value} (hp : ∀ a ∈ l, p a) (h : Chunks R sz l xs) : Chunks (fun a cs => R a cs ∧ p a) sz l xs := by
  induction l generalizing xs with
  | nil => exact h
  | cons a l ih =>
    obtain ⟨c, r, rfl, h1, h2, h3⟩ := h
    exact ⟨c, r, rfl, h1, ⟨h2, hp a (by simp)⟩, ih (fun b hb => hp b (by simp [hb])) h3⟩
section
variable {w w' : World} {A : Option Addr} {l : RcL}
theorem rcR.below (h : rcR w A l) (hb : Below w.heap.size w w') : rcR w' A l := RdL.mono h hb (fun a cs h => (RcR.mono _ (Nat.le_refl _) hb a cs h).up hb.size)
theorem rcR.regrown (h : rcR w A l) (d : Nat) (os : Array Obj) : rcR (Sort.grow (redrawn w d) os) A l := h.below (below_regrown w d os)
theorem rcR.len (h : rcR w A l) : l.length ≤ 9223372036854775807 := h.1
def rcD : Rc := (0, 0, 0, 0, [], false, 0)
def rcAt (l : RcL) (k : Nat) : Rc := l.getD k rcD
theorem rcAt_eq {k : Nat} (hk : k < l.length) : rcAt l k = l[k] := by simp [rcAt, hk]
def rc0 (l : RcL) (k : Nat) : Int := rtm (rcAt l k)
def rc1 (l : RcL) (k : Nat) : Int := rwho (rcAt l k)
def rc2 (l : RcL) (k : Nat) : Int := ract (rcAt l k)
def rc3 (l : RcL) (k : Nat) : Int := rwhat (rcAt l k)
def rc4 (l : RcL) (k : Nat) : FdL := rfs (rcAt l k)
def rc5 (l : RcL) (k : Nat) : Bool := ral (rcAt l k)
def rc6 (l : RcL) (k : Nat) : Int := rsl (rcAt l k)
theorem rc_elem {k : Nat} (hk : k < l.length) : (rc0 l k, rc1 l k, rc2 l k, rc3 l k, rc4 l k, rc5 l k, rc6 l k) = l[k] := by rw [← rcAt_eq hk]; rfl
theorem rcR.cells (h : rcR w A l) (hn : 0 < l.length) : ∃ b off, A = some ⟨b, off, none⟩ ∧ ∀ k, k < l.length → ∃ A' c', fdR w A' (rc4 l k) ∧
    w.cell? ⟨b, off + k * 7, none⟩ = some (.int .i64 (rc0 l k)) ∧ w.cell? ⟨b, off + k * 7 + 1, none⟩ = some (.int .i64 (rc1 l k)) ∧ w.cell? ⟨b, off + k * 7 + 2, none⟩ = some (.int .i64 (rc2 l k)) ∧ w.cell? ⟨b, off + k * 7 + 3, none⟩ = some (.int .i64 (rc3 l k)) ∧
    w.cell? ⟨b, off + k * 7 + 4, none⟩ = some (.slice A' (rc4 l k).length c') ∧ w.cell? ⟨b, off + k * 7 + 5, none⟩ = some (.bool (rc5 l k)) ∧ w.cell? ⟨b, off + k * 7 + 6, none⟩ = some (.int .i64 (rc6 l k)) := by
  obtain ⟨b, off, e, hc⟩ := h.2 hn
  refine ⟨b, off, e, fun k hk => ?_⟩
  obtain ⟨cs, _, ⟨A', c', rfl, h2, _⟩, hv⟩ := hc k hk
  have e : l[k] = rcAt l k := (rcAt_eq hk).symm
  rw [e] at h2 hv
  exact ⟨A', c', h2, hv 0 _ rfl, hv 1 _ rfl, hv 2 _ rfl, hv 3 _ rfl, hv 4 _ rfl, hv 5 _ rfl, hv 6 _ rfl⟩
theorem rcR.own {B c : Nat} (hl : l.length ≤ 9223372036854775807) (hf : ∀ r ∈ l, (rfs r).length ≤ 9223372036854775807) (h : OwnG (RcO B) B 27 7 w (.slice A l.length c) l) : rcR w A l := by
  obtain ⟨A', c', xs, e, ho, hc⟩ := h
  have h2 : OwnG (fun w r cs => RcO B w r cs ∧ (rfs r).length ≤ 9223372036854775807) B 27 7 w (.slice A l.length c) l := by
    exact ⟨A', c', xs, e, ho, chunks_mem hf hc⟩
  obtain ⟨A1, c1, e1, hr⟩ := h2.rd hl
  simp only [Value.slice.injEq, true_and] at e1
  obtain ⟨rfl, rfl⟩ := e1
  exact ⟨hr.1, fun hn => let ⟨b, off, e, hc⟩ := hr.2 hn; ⟨b, off, e, fun k hk => let ⟨cs, g1, g2, g3⟩ := hc k hk; ⟨cs, g1, g2.1.rd g2.2, g3⟩⟩⟩
end
theorem Try.infoRecord : (Try.prog.info? 27).map (fun i => (i.zero, i.size, i.bytes)) = some (some (.agg #[.int .i64 0, .int .i64 0, .int .i64 0, .int .i64 0, .slice Option.none 0 0, .bool false, .int .i64 0]), 7, 72) := by kernel_rfl
end Go.Proofs.Ytdpiaiblpafglaa
