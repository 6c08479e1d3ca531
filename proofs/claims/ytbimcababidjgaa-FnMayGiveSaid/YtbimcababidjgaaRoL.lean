/- Roles: what is drawn. -/
import Derived.Test.YtbimcababidjgaaRoT
import Derived.Test.YtbimcababidjgaaApK
namespace Go.Proofs.Ytbimcababidjgaa
set_option linter.unusedSimpArgs false
set_option linter.unusedVariables false
open Go.RowKit

def roTab : Tab := [
  (73, [.str 1, .intx .i64, .sl 1 0 20]),
  (58, [.sl 1 0 20, .intx .i64]),
  (3, [.int .i64 i64lo i64hi]),
  (5, [.int .u8 0 255])]
def roSto : Sto := [(73, 3), (58, 2), (3, 1), (5, 0)]
theorem ro_good {J lim : Nat} {cons : List Con} (hc : ∀ e ∈ cons, ConOk Try.prog roTab e) : Good (dConf Try.prog roTab roSto J lim cons) := good_of (by kernel_rfl) (by kernel_rfl) hc
def roRolesCon : Con := ⟨40, [.ck .rdr, .ck (.int .i64 0 100)], .ck (.sl 3 0 6), 1000⟩
theorem roRoles_fn : absFnB (dConf Try.prog roTab roSto 0 1000 []) Try.f40 20 (List.range 200) [.ck .rdr, .ck (.int .i64 0 100)] (.run 0) (.ck (.sl 3 0 6)) = true := by kernel_rfl
theorem roRoles_con : ConOk Try.prog roTab roRolesCon := con_ofB (T := dConf Try.prog roTab roSto 0 1000 []) (ro_good cons_nil) Try.func40 (by kernel_rfl) (by kernel_rfl) roRoles_fn
def roApartCon : Con := ⟨29, [.ck .rdr, .ck (.int .i64 0 10), .ck (.int .i64 0 100)], .ck (.sl 2 0 5), 1000⟩
theorem roApart_fn : absFnB (dConf Try.prog roTab roSto 0 1000 []) Try.f29 20 (List.range 200) [.ck .rdr, .ck (.int .i64 0 10), .ck (.int .i64 0 100)] (.run 0) (.ck (.sl 2 0 5)) = true := by kernel_rfl
theorem roApart_con : ConOk Try.prog roTab roApartCon := con_ofB (T := dConf Try.prog roTab roSto 0 1000 []) (ro_good cons_nil) Try.func29 (by kernel_rfl) (by kernel_rfl) roApart_fn
def roSomeCon : Con := ⟨30, [.ck .rdr, .ck (.int .i64 0 10)], .ck (.sl 1 0 5), 1000⟩
theorem roSome_fn : absFn (dConf Try.prog roTab roSto 0 1000 []) Try.f30 20 (List.range 200) [.ck .rdr, .ck (.int .i64 0 10)] (.run 0) (.ck (.sl 1 0 5)) = true := by kernel_rfl
theorem roSome_con : ConOk Try.prog roTab roSomeCon := con_of (T := dConf Try.prog roTab roSto 0 1000 []) (ro_good cons_nil) Try.func30 (by kernel_rfl) (by kernel_rfl) roSome_fn
theorem ro_cons : ∀ e ∈ [roRolesCon, roApartCon, roSomeCon], ConOk Try.prog roTab e := cons_cons roRoles_con (cons_cons roApart_con (cons_cons roSome_con cons_nil))
theorem drawMayGive_fn : absFn (dConf Try.prog roTab roSto 0 10000 [roRolesCon, roApartCon, roSomeCon]) Try.f20 20 (List.range 200) [.ck .code] (.pre 0) (.tup [.c (.sl 3 0 6), .c (.sl 2 0 5), .c (.sl 1 0 5), .c (.int .i64 0 6)]) = true := by kernel_rfl
def RoP (r : Ro) : Prop := WfRo r ∧ (rof2 r).length ≤ 20
theorem ro_dec {c : Ctx} {w : World} (cs : List Value) (h : RowK ([CK.str 1, CK.intx .i64, CK.sl 1 0 20].map (cden c roTab)) w cs) : ∃ r : Ro, RoP r ∧ roN.R w.heap.size w r cs := by
  obtain ⟨_, _, rfl, ⟨s, rfl, hs⟩, _, _, rfl, ⟨n1, rfl⟩, _, _, rfl, h4, rfl⟩ := h
  obtain ⟨fs, A, q, rfl, _, h5, h9, h6, _, _, h7, _⟩ := sl_rd (R := Flat ilEnc) (P := fun a => i64lo ≤ a ∧ a ≤ i64hi) (by kernel_rfl) il_dec (by decide) h4
  exact ⟨(s, n1, fs), ⟨⟨Nat.le_trans hs (by decide), trivial⟩, h5⟩, A, q, rfl, h6, fun _ a ha => (h7 a ha).1⟩
theorem roap_dec {c : Ctx} {w : World} (cs : List Value) (h : RowK ([CK.sl 1 0 20, .intx .i64].map (cden c roTab)) w cs) : ∃ r : Ap, ApP r ∧ apN.R w.heap.size w r cs := by
  obtain ⟨_, _, rfl, h4, _, _, rfl, ⟨n1, rfl⟩, rfl⟩ := h
  obtain ⟨fs, A, q, rfl, _, h5, h9, h6, _, _, h7, _⟩ := sl_rd (R := Flat ilEnc) (P := fun a => i64lo ≤ a ∧ a ≤ i64hi) (by kernel_rfl) il_dec (by decide) h4
  exact ⟨(fs, n1), h5, A, q, rfl, h6, fun _ a ha => (h7 a ha).1⟩
theorem DrawMayGive_d {A : Option Addr} {l : List Int} {q : Nat} {w : World} (hC : CodeR w w.heap.size A l) (hq : l.length ≤ q) :
    Calls Try.prog 20 #[.slice A l.length q] w fun e w' => ∃ (us : RoL) (list : ApL) (has : IL) (role : Int) (A0 A1 A2 : Option Addr) (c0 c1 c2 : Nat), e = .returned (.tuple #[.slice A0 us.length c0, .slice A1 list.length c1, .slice A2 has.length c2, .int .i64 role]) ∧ us.length ≤ 6 ∧ list.length ≤ 5 ∧ has.length ≤ 5 ∧ has.length ≤ c2 ∧ c2 ≤ 9223372036854775807 ∧ ((has = [] ∧ A2 = Option.none ∧ c2 = 0) ∨ ∃ b off, A2 = some ⟨b, off, Option.none⟩) ∧ roR w' A0 us ∧ WfRoL us ∧ apR w' A1 list ∧ ilR w' A2 has ∧ Below w.heap.size w w' := by
  refine (draw_of (ro_good ro_cons) Try.func20 (by decide) drawMayGive_fn hC hq).mono ?_
  rintro e w' ⟨v, c, rfl, _, ⟨_, rfl, _, _, rfl, h0, _, _, rfl, h1, _, _, rfl, h2, _, _, rfl, ⟨role, rfl, _⟩, rfl⟩, hb⟩
  obtain ⟨us, A0, c0, rfl, _, g1, g2, g3, _⟩ := sl_rd (R := roN.R w'.heap.size) (P := RoP) (by kernel_rfl) ro_dec (by decide) h0
  obtain ⟨list, A1, c1, rfl, _, g4, _, g5, _⟩ := sl_rd (R := apN.R w'.heap.size) (P := ApP) (by kernel_rfl) roap_dec (by decide) h1
  obtain ⟨has, A2, c2, rfl, _, g6, _, g7, g8, g9, g10, g11⟩ := sl_rd (R := Flat ilEnc) (P := fun a => i64lo ≤ a ∧ a ≤ i64hi) (by kernel_rfl) il_dec (by decide) h2
  exact ⟨us, list, has, role, A0, A1, A2, c0, c1, c2, rfl, g1, g4, g6, g8, g9, (by
    cases A2 with
    | none => have := g11 rfl; exact .inl ⟨List.eq_nil_of_length_eq_zero (by omega), rfl, this⟩
    | some a => obtain ⟨b, off, sp⟩ := a; obtain rfl : sp = Option.none := (g10 _ rfl).2; exact .inr ⟨b, off, rfl⟩), g3, fun r hr => (g2 r hr).1, g5, g7, hb⟩
end Go.Proofs.Ytbimcababidjgaa
