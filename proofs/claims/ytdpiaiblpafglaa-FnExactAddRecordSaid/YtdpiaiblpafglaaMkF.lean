/- The texts that marks write. -/
import Derived.Test.YtdpiaiblpafglaaFdV
import Derived.Laws.IdiomStrings
namespace Go.Proofs.Ytdpiaiblpafglaa
set_option linter.unusedSimpArgs false
set_option linter.unusedVariables false
open Go.RowKit

def mkGo : Nat → Int → ByteArray → ByteArray
  | 0, _, out => out
  | f + 1, k, out => if k ≤ 0 then out else mkGo f (k / 10) (⟨#[UInt8.ofNat (48 + k % 10).toNat]⟩ ++ out)
def mkT (k : Int) : ByteArray := if k ≤ 0 then ⟨#[109, 48]⟩ else ⟨#[109]⟩ ++ mkGo k.toNat k ⟨#[]⟩
theorem run_one_byte {w : World} {n : Int} (h0 : 0 ≤ n) (h1 : n ≤ 255) :
    (convert 22 9 (.slice (some ⟨w.heap.size, 0, Option.none⟩) 1 1)).run Try.prog (w.alloc (.cells #[.int .u8 n] 5)) = .ok (.string ⟨#[UInt8.ofNat n.toNat]⟩) (w.alloc (.cells #[.int .u8 n] 5)) := by
  have e : ((UInt8.ofNat n.toNat).toNat : Int) = n := by
    rw [UInt8.toNat_ofNat']
    omega
  have h := run_convert_bytes_back (P := Try.prog) (w.alloc (.cells #[.int .u8 n] 5)) 22 9 5 ⟨w.heap.size, 0, Option.none⟩ 1 [UInt8.ofNat n.toNat] Try.underlying22 Try.underlying5 Try.underlying9 (by
    intro j hj
    have hj0 : j = 0 := by simp at hj; exact hj
    subst hj0
    simp only [List.getElem_cons_zero, e]
    exact box_cell w _ _ 0 _ rfl)
  exact h
set_option maxRecDepth 100000 in
set_option maxHeartbeats 2000000 in
theorem markText_any {k : Int} (w : World) (hk : k ≤ 4611686018427387904) :
    Calls Try.prog 63 #[.int .i64 k] w fun e w' => e = .returned (.string (mkT k)) ∧ Below w.heap.size w w' := by
  by_cases h0 : k ≤ 0
  · have HD : Hid (mkT k = ⟨#[109, 48]⟩) := Lib.hid (by rw [mkT, if_pos h0])
    go_enter Try.func63, Try.ntmps63
    go_wp2
    go_ret
    exact ⟨by rw [HD.out]; rfl, Below.refl _ _⟩
  · have HD : Hid (mkT k = ⟨#[109]⟩ ++ mkGo k.toNat k ⟨#[]⟩) := Lib.hid (by rw [mkT, if_neg h0])
    go_enter Try.func63, Try.ntmps63
    go_wp2
    go_loopw [0, 3] (fun kv ov wr => ∃ (f : Nat) (m : Int) (out : ByteArray), kv = .int .i64 m ∧ ov = .string out ∧ 0 ≤ m ∧ m ≤ 4611686018427387904 ∧ (m.toNat ≤ f ∧ out.size + m.toNat ≤ 4611686018427387904) ∧ Hid (mkGo f m out = mkGo k.toNat k ⟨#[]⟩) ∧ Below w.heap.size w wr) (fun kv _ _ => (intOf kv).toNat)
    case atStart => exact ⟨k.toNat, k, ⟨#[]⟩, rfl, rfl, by omega, hk, ⟨Nat.le_refl _, by show 0 + k.toNat ≤ _; omega⟩, Lib.hid rfl, Below.refl _ _⟩
    case round =>
      obtain ⟨f, m, out, rfl, rfl, hm, hm1, ⟨hf, hz⟩, HG, hB⟩ := hrel
      by_cases hlt : 0 < m
      · obtain ⟨f, rfl⟩ : ∃ g, f = g + 1 := ⟨f - 1, by omega⟩
        have HG1 : Hid (mkGo f (m / 10) (⟨#[UInt8.ofNat (48 + m % 10).toNat]⟩ ++ out) = mkGo k.toNat k ⟨#[]⟩) := Lib.hid (by rw [← HG.out, mkGo, if_neg (by omega)])
        have ez : (⟨#[UInt8.ofNat (48 + m % 10).toNat]⟩ ++ out : ByteArray).size = 1 + out.size := by rw [ByteArray.size_append]; rfl
        have HZ := Lib.hid ez
        clear ez
        go_wp2
        rw [run_one_byte (by omega) (by omega)]
        go_wp2
        go_roundw
        case rel => exact ⟨f, m / 10, _, rfl, rfl, by omega, by omega, ⟨by omega, by rw [HZ.out]; omega⟩, HG1, ext_alloc hB _⟩
        case measure => simp [intOf]; omega
      · obtain rfl : m = 0 := by omega
        have HE : Hid (mkGo f 0 out = out) := Lib.hid (by cases f <;> simp [mkGo])
        go_wp2
        go_ret
        exact ⟨by rw [HD.out, ← HG.out, HE.out]; rfl, hB⟩
end Go.Proofs.Ytdpiaiblpafglaa
