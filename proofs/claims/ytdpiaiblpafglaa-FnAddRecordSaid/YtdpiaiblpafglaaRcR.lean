/- Records: three more draws. -/
import Derived.Test.YtdpiaiblpafglaaRcP
namespace Go.Proofs.Ytdpiaiblpafglaa
set_option linter.unusedSimpArgs false
set_option linter.unusedVariables false
open Go.RowKit

def l20RecordsCon : Con := ⟨48, [.ck .rdr, .ck (.int .i64 0 100)], .ck (.sl 4 0 21), 1000⟩
theorem l20Records_con : ConOk Try.prog rcTab l20RecordsCon := con_of (T := dConf Try.prog rcTab rcSto 0 1000 [rcAddCon]) (rc_good (cons_cons rcAdd_con cons_nil)) Try.func48 (by kernel_rfl) (by kernel_rfl) l20Records_fn
theorem drawRecordsRight_fn : absFn (dConf Try.prog rcTab rcSto 0 10000 [l20RecordsCon]) Try.f15 20 (List.range 200) [.ck .code] (.pre 0) (.ck (.sl 4 0 21)) = true := by kernel_rfl
theorem drawRefusedBy_fn : absFn (dConf Try.prog rcTab rcSto 0 10000 [l20RecordsCon]) Try.f21 20 (List.range 200) [.ck .code] (.pre 0) (.tup [.c (.sl 4 0 21), .c (.int .i64 0 3)]) = true := by kernel_rfl
theorem drawAddRecord_fn : absFn (dConf Try.prog rcTab rcSto 1 100000 [l20RecordsCon]) Try.f24 20 (List.range 200) [.ck .code] (.pre 0) (.tup [.c (.sl 4 0 21), .c (.int .i64 i64lo i64hi), .agg [.intx .i64, .intx .i64, .intx .i64, .sl 3 0 8], .c (.bool Option.none)]) = true := by kernel_rfl
theorem DrawRecordsRight_d {A : Option Addr} {l : List Int} {q : Nat} {w : World} (hC : CodeR w w.heap.size A l) (hq : l.length ≤ q) :
    Calls Try.prog 15 #[.slice A l.length q] w fun e w' => ∃ (us : RcL) (A' : Option Addr) (c' : Nat), e = .returned (.slice A' us.length c') ∧ us.length ≤ 21 ∧ rcR w' A' us ∧ us.length ≤ c' ∧ c' ≤ 9223372036854775807 ∧ ((A' = Option.none ∧ us = [] ∧ c' = 0) ∨ ∃ b off, A' = some ⟨b, off, Option.none⟩) ∧ Below w.heap.size w w' := by
  refine (draw_of (rc_good (cons_cons l20Records_con cons_nil)) Try.func15 (by decide) drawRecordsRight_fn hC hq).mono ?_
  rintro e w' ⟨v, c, rfl, _, hv, hb⟩
  obtain ⟨us, A', c', rfl, _, h1, _, h2, h3, h4, h5, h6⟩ := rcs_of (by decide) hv
  refine ⟨us, A', c', rfl, h1, h2, h3, h4, ?_, hb⟩
  cases A' with
  | none =>
    have := h5 rfl
    exact .inl ⟨rfl, List.eq_nil_of_length_eq_zero (by omega), this⟩
  | some a =>
    obtain ⟨b, off, sp⟩ := a
    have := h6 _ rfl
    simp only at this
    subst this
    exact .inr ⟨b, off, rfl⟩
theorem DrawRefusedBy_d {A : Option Addr} {l : List Int} {q : Nat} {w : World} (hC : CodeR w w.heap.size A l) (hq : l.length ≤ q) :
    Calls Try.prog 21 #[.slice A l.length q] w fun e w' => ∃ (us : RcL) (A' : Option Addr) (c' : Nat) (who : Int), e = .returned (.tuple #[.slice A' us.length c', .int .i64 who]) ∧ (0 ≤ who ∧ who ≤ 3) ∧ us.length ≤ 21 ∧ rcR w' A' us ∧ Below w.heap.size w w' := by
  refine (draw_of (rc_good (cons_cons l20Records_con cons_nil)) Try.func21 (by decide) drawRefusedBy_fn hC hq).mono ?_
  rintro e w' ⟨v, c, rfl, _, ⟨_, rfl, _, _, rfl, hv, _, _, rfl, ⟨who, rfl, w0, w1⟩, rfl⟩, hb⟩
  obtain ⟨us, A', c', rfl, _, h1, _, h2, h3, _⟩ := rcs_of (by decide) hv
  exact ⟨us, A', c', who, rfl, ⟨w0, w1⟩, h1, h2, hb⟩
theorem DrawAddRecord_d {A : Option Addr} {l : List Int} {q : Nat} {w : World} (hC : CodeR w w.heap.size A l) (hq : l.length ≤ q) :
    Calls Try.prog 24 #[.slice A l.length q] w fun e w' => ∃ (us : RcL) (A' : Option Addr) (c' : Nat) (tm who act what : Int) (fs : FdL) (A2 : Option Addr) (c2 : Nat) (al : Bool), e = .returned (.tuple #[.slice A' us.length c', .int .i64 tm, .agg #[.int .i64 who, .int .i64 act, .int .i64 what, .slice A2 fs.length c2], .bool al]) ∧ us.length ≤ 21 ∧ FewF 1048576 us ∧ fs.length ≤ 8 ∧ rcR w' A' us ∧ fdR w' A2 fs ∧ Below w.heap.size w w' := by
  refine (draw_of (rc_good (cons_cons l20Records_con cons_nil)) Try.func24 (by decide) drawAddRecord_fn hC hq).mono ?_
  rintro e w' ⟨v, c, rfl, _, ⟨_, rfl, _, _, rfl, hv, _, _, rfl, ⟨tm, rfl, _⟩, _, _, rfl, ⟨cs, rfl, hr⟩, _, _, rfl, ⟨al, rfl, _⟩, rfl⟩, hb⟩
  obtain ⟨us, A', c', rfl, _, h1, hP, h2, h3, _⟩ := rcs_of (by decide) hv
  obtain ⟨_, _, rfl, ⟨n0, rfl⟩, _, _, rfl, ⟨n1, rfl⟩, _, _, rfl, ⟨n2, rfl⟩, _, _, rfl, h4, rfl⟩ := hr
  obtain ⟨fs, A2, q2, rfl, _, h5, h9, h6, _⟩ := sl_rd (R := Flat fdEnc) (P := fun a => a.1.size ≤ 1000) (by kernel_rfl) fd_dec (by decide) h4
  have hf : FewF 1048576 us := fun k hk => by
    have := (hP us[k] (List.getElem_mem hk)).1
    rw [rc4, rcAt_eq hk]; omega
  exact ⟨us, A', c', tm, n0, n1, n2, fs, A2, q2, al, rfl, h1, hf, h5, h2, h6, hb⟩
end Go.Proofs.Ytdpiaiblpafglaa
