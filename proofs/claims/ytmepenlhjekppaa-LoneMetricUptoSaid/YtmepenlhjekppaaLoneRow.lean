/- Chapter 6: the two statements over arguments as memory has them. No condition of its own. -/
import Derived.Test.YtmepenlhjekppaaLoneLaw
namespace Go.Proofs.YtmepenlhjekppaaF
open Go Go.Proofs.YtmepenlhjekppaaK
theorem loneTells_row (h : Hp) (a0 : Option Addr) (len0 cap0 : Nat) {m0 : Nat} (g0 : Arg Try.prog h 33 (.slice a0 len0 cap0) m0) (a1 : Option Addr) (len1 cap1 : Nat) {m1 : Nat} (g1 : Arg Try.prog h 33 (.slice a1 len1 cap1) m1)
    (x2 : Int) (_ : (Lit.int .i64 x2).wf = true) {m2 : Nat} (_ : Arg Try.prog h 3 (.int .i64 x2) m2) (hk : m0 + m1 + m2 ≤ 1048576) :
    CallT Try.prog 6 [.slice a0 len0 cap0, .slice a1 len1 cap1, .int .i64 x2] [.at .bool] h fun s h' => s.1 = true ∧ Ext h h' := by
  obtain ⟨la, ra, oka, hla⟩ := arg32 Try.underlying33 Try.underlying21 (by kernel_rfl) g0
  obtain ⟨lb, rb, okb, hlb⟩ := arg32 Try.underlying33 Try.underlying21 (by kernel_rfl) g1
  exact loneTells_ok (sa := ⟨a0, len0, cap0⟩) (sb := ⟨a1, len1, cap1⟩) oka okb (by omega) (by omega) ra rb
theorem loneMetric_row (h : Hp) (a0 : Option Addr) (len0 cap0 : Nat) {m0 : Nat} (g0 : Arg Try.prog h 33 (.slice a0 len0 cap0) m0) (a1 : Option Addr) (len1 cap1 : Nat) {m1 : Nat} (g1 : Arg Try.prog h 33 (.slice a1 len1 cap1) m1)
    (a2 : Option Addr) (len2 cap2 : Nat) {m2 : Nat} (g2 : Arg Try.prog h 33 (.slice a2 len2 cap2) m2) (hk : m0 + m1 + m2 ≤ 1048576) :
    CallT Try.prog 5 [.slice a0 len0 cap0, .slice a1 len1 cap1, .slice a2 len2 cap2] [.at .bool] h fun s h' => s.1 = true ∧ Ext h h' := by
  obtain ⟨la, ra, oka, hla⟩ := arg32 Try.underlying33 Try.underlying21 (by kernel_rfl) g0
  obtain ⟨lb, rb, okb, hlb⟩ := arg32 Try.underlying33 Try.underlying21 (by kernel_rfl) g1
  obtain ⟨lc, rc, okc, hlc⟩ := arg32 Try.underlying33 Try.underlying21 (by kernel_rfl) g2
  exact loneMetric_ok (sa := ⟨a0, len0, cap0⟩) (sb := ⟨a1, len1, cap1⟩) (sc := ⟨a2, len2, cap2⟩) oka okb okc (by omega) (by omega) (by omega) ra rb rc
end Go.Proofs.YtmepenlhjekppaaF
