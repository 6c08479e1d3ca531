/- Rules on roles: what is drawn. -/
import Derived.Test.YtbimcababidjgaaAih
import Derived.Test.YtbimcababidjgaaAik
import Derived.Test.YtbimcababidjgaaIlB
import Derived.Test.YtbimcababidjgaaAij
import Derived.Test.YtbimcababidjgaaApT
namespace Go.Proofs.Ytbimcababidjgaa
set_option linter.unusedSimpArgs false
set_option linter.unusedVariables false
open Go.RowKit

def apTab : Tab := [
  (58, [.sl 0 0 20, .intx .i64]),
  (3, [.int .i64 i64lo i64hi])]
def apSto : Sto := [(58, 1), (3, 0)]
theorem ap_good {J lim : Nat} {cons : List Con} (hc : ∀ e ∈ cons, ConOk Try.prog apTab e) : Good (dConf Try.prog apTab apSto J lim cons) := good_of (by kernel_rfl) (by kernel_rfl) hc
def l20ApartCon : Con := ⟨29, [.ck .rdr, .ck (.int .i64 0 10), .ck (.int .i64 0 100)], .ck (.sl 1 0 5), 1000⟩
theorem l20Apart_fn : absFnB (dConf Try.prog apTab apSto 0 1000 []) Try.f29 20 (List.range 200) [.ck .rdr, .ck (.int .i64 0 10), .ck (.int .i64 0 100)] (.run 0) (.ck (.sl 1 0 5)) = true := by kernel_rfl
theorem l20Apart_con : ConOk Try.prog apTab l20ApartCon := con_ofB (T := dConf Try.prog apTab apSto 0 1000 []) (ap_good cons_nil) Try.func29 (by kernel_rfl) (by kernel_rfl) l20Apart_fn
def l20SomeCon : Con := ⟨30, [.ck .rdr, .ck (.int .i64 0 10)], .ck (.sl 0 0 5), 1000⟩
theorem l20Some_fn : absFn (dConf Try.prog apTab apSto 0 1000 []) Try.f30 20 (List.range 200) [.ck .rdr, .ck (.int .i64 0 10)] (.run 0) (.ck (.sl 0 0 5)) = true := by kernel_rfl
theorem l20Some_con : ConOk Try.prog apTab l20SomeCon := con_of (T := dConf Try.prog apTab apSto 0 1000 []) (ap_good cons_nil) Try.func30 (by kernel_rfl) (by kernel_rfl) l20Some_fn
theorem ap_cons : ∀ e ∈ [l20ApartCon, l20SomeCon], ConOk Try.prog apTab e := cons_cons l20Apart_con (cons_cons l20Some_con cons_nil)
theorem drawBrokenRules_fn : absFn (dConf Try.prog apTab apSto 0 10000 [l20ApartCon, l20SomeCon]) Try.f7 20 (List.range 200) [.ck .code] (.pre 0) (.tup [.c (.int .i64 2 6), .c (.sl 1 0 5), .c (.sl 0 0 5)]) = true := by kernel_rfl
theorem il_dec {c : Ctx} {tab : Tab} {w : World} {lo hi : Int} (cs : List Value) (h : RowK ([CK.int .i64 lo hi].map (cden c tab)) w cs) : ∃ a : Int, (lo ≤ a ∧ a ≤ hi) ∧ Flat ilEnc w a cs := by
  obtain ⟨_, _, rfl, ⟨n, rfl, h0, h1⟩, rfl⟩ := h
  exact ⟨n, ⟨h0, h1⟩, rfl⟩
def ApP (r : Ap) : Prop := (apf0 r).length ≤ 20
theorem ap_dec {c : Ctx} {w : World} (cs : List Value) (h : RowK ([CK.sl 0 0 20, .intx .i64].map (cden c apTab)) w cs) : ∃ r : Ap, ApP r ∧ apN.R w.heap.size w r cs := by
  obtain ⟨_, _, rfl, h4, _, _, rfl, ⟨n1, rfl⟩, rfl⟩ := h
  obtain ⟨fs, A, q, rfl, _, h5, h9, h6, _, _, h7, _⟩ := sl_rd (R := Flat ilEnc) (P := fun a => i64lo ≤ a ∧ a ≤ i64hi) (by kernel_rfl) il_dec (by decide) h4
  exact ⟨(fs, n1), h5, A, q, rfl, h6, fun _ a ha => (h7 a ha).1⟩
theorem aps_of {c : Ctx} {w : World} {v : Value} {lo hi : Nat} (hh : hi ≤ 9223372036854775807) (h : cden c apTab (.sl 1 lo hi) w v) : ∃ (l : ApL) (A : Option Addr) (q : Nat), v = .slice A l.length q ∧ lo ≤ l.length ∧ l.length ≤ hi ∧ (∀ r ∈ l, ApP r) ∧ apR w A l ∧ l.length ≤ q ∧ q ≤ 9223372036854775807 := by
  obtain ⟨l, A, q, rfl, h1, h2, h3, h4, h5, h6, h7, h8⟩ := sl_rd (R := apN.R w.heap.size) (P := ApP) (by kernel_rfl) ap_dec hh h
  exact ⟨l, A, q, rfl, h1, h2, h3, h4, h5, h6⟩
theorem ils_of {c : Ctx} {w : World} {v : Value} {lo hi : Nat} (hh : hi ≤ 9223372036854775807) (h : cden c apTab (.sl 0 lo hi) w v) : ∃ (l : IL) (A : Option Addr) (q : Nat), v = .slice A l.length q ∧ lo ≤ l.length ∧ l.length ≤ hi ∧ ilR w A l ∧ l.length ≤ q ∧ q ≤ 9223372036854775807 := by
  obtain ⟨l, A, q, rfl, h1, h2, h3, h4, h5, h6, h7, h8⟩ := sl_rd (R := Flat ilEnc) (P := fun a => i64lo ≤ a ∧ a ≤ i64hi) (by kernel_rfl) il_dec hh h
  exact ⟨l, A, q, rfl, h1, h2, h4, h5, h6⟩
theorem DrawBrokenRules_d {A : Option Addr} {l : List Int} {q : Nat} {w : World} (hC : CodeR w w.heap.size A l) (hq : l.length ≤ q) :
    Calls Try.prog 7 #[.slice A l.length q] w fun e w' => ∃ (many : Int) (us : ApL) (has : IL) (A1 A2 : Option Addr) (c1 c2 : Nat), e = .returned (.tuple #[.int .i64 many, .slice A1 us.length c1, .slice A2 has.length c2]) ∧ us.length ≤ 5 ∧ has.length ≤ 5 ∧ apR w' A1 us ∧ ilR w' A2 has ∧ Below w.heap.size w w' := by
  refine (draw_of (ap_good ap_cons) Try.func7 (by decide) drawBrokenRules_fn hC hq).mono ?_
  rintro e w' ⟨v, c, rfl, _, ⟨_, rfl, _, _, rfl, ⟨many, rfl, _⟩, _, _, rfl, h1, _, _, rfl, h2, rfl⟩, hb⟩
  obtain ⟨us, A1, c1, rfl, _, g1, _, g2, _⟩ := aps_of (by decide) h1
  obtain ⟨has, A2, c2, rfl, _, g3, g4, _⟩ := ils_of (by decide) h2
  exact ⟨many, us, has, A1, A2, c1, c2, rfl, g1, g3, g2, g4, hb⟩
end Go.Proofs.Ytbimcababidjgaa
