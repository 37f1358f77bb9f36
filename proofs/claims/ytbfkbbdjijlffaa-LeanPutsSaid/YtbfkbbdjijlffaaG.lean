/- A slice of puts that came in, opened. -/
import Derived.Test.YtbfkbbdjijlffaaF
import Derived.Test.YtbfkbbdjijlffaaRows
import Derived.ProofKit
import Derived.OpenShut
import Derived.ChangeOld
import Derived.Deep.SlicePairs
namespace Go.Proofs.Ytbfkbbdjijlffaa
open Go.ChangeShapes Go.WideShapes Go.ChangeAt Go.RowKit

theorem own : ownKnob Try.prog.godebug = none := by kernel_rfl
theorem laidOut : laidOutB Try.prog = true := by kernel_rfl

theorem bd_i64 {n : Int} (h : (Lit.int .i64 n).wf = true) : -9223372036854775808 ≤ n ∧ n ≤ 9223372036854775807 := by
  have h1 : IntKind.min .i64 = -9223372036854775808 := by decide
  have h2 : IntKind.max .i64 = 9223372036854775807 := by decide
  simp [Lit.wf, h1, h2] at h
  exact h

theorem puts_open {H : Type} {enc : TypeId × Value → H} {W : World} {fuel : Nat} {a : Option Addr} {len cap : Nat} {x : DataW H × List MemPlace}
    (hf : DataW.trod enc Try.prog W 0 (fun _ => true) true fuel 22 [.slice a len cap] = some x) : len ≤ maxLen ∧ ∃ V N, Puts W a len V N := by
  rcases Deep.open_slice_pairs Try.underlying22 Try.underlying27 (by kernel_rfl) rfl rfl (by kernel_rfl) (by kernel_rfl) hf with ⟨hcs, _⟩ | ⟨p, l, c, m, n, V0, V1, D0, D1, P0, P1, hcs, _, hl, hm, hmm, _, hx⟩
  · simp at hcs
    obtain ⟨rfl, rfl, rfl⟩ := hcs
    exact ⟨Nat.zero_le _, fun _ => 0, fun _ => 0, fun i hi => absurd hi (Nat.not_lt_zero _)⟩
  · simp at hcs
    obtain ⟨rfl, rfl, rfl⟩ := hcs
    have hm' : m = cap := by simpa using hmm
    subst hm'
    have e0 : ∀ i, i < m → ∃ v, V0 i = .int .i64 v ∧ (Lit.int .i64 v).wf = true := fun i hi => by
      obtain ⟨v, h1, _, h3⟩ := DataW.trod_int Try.underlying3 (hx i hi).2.2.1
      exact ⟨v, by simpa using h1, h3⟩
    have e1 : ∀ i, i < m → ∃ v, V1 i = .int .i64 v := fun i hi => by
      obtain ⟨v, h1, _, _⟩ := DataW.trod_int Try.underlying3 (hx i hi).2.2.2
      exact ⟨v, by simpa using h1⟩
    obtain ⟨V, hV⟩ := Deep.choose_lt e0
    obtain ⟨N, hN⟩ := Deep.choose_lt e1
    refine ⟨Nat.le_trans hl hm, V, N, fun i hi => ?_⟩
    have hi' : i < m := by omega
    obtain ⟨c0, c1, _, _⟩ := hx i hi'
    obtain ⟨b, off, spot⟩ := p
    have hspot : spot = none := by
      have hs := World.cell?_spot (hx 0 (by omega)).1
      simpa [Addr.add] using hs
    subst hspot
    rw [add_plain] at c0 c1
    rw [(hV i hi').1] at c0
    rw [hN i hi'] at c1
    have hb := bd_i64 (hV i hi').2
    exact ⟨b, off, rfl, c0, by rw [Nat.add_assoc]; exact c1, hb.1, hb.2⟩
end Go.Proofs.Ytbfkbbdjijlffaa
