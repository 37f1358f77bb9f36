/- Rows of bytes that came in. -/
import Derived.Test.YtfminplenemfnaaS
import Derived.Deep.Matrix
namespace Go.Proofs.Ytfminplenemfnaa
open Go.RowKit Go.ChangeShapes Go.Deep

theorem addr_add (b off i : Nat) : (⟨b, off, none⟩ : Addr).add i = ⟨b, off + i, none⟩ := by unfold Addr.add; split <;> simp_all

theorem row_at {W : World} {ad : Addr} {cap i : Nat} {A : Nat → Option Addr} {L C : Nat → Nat} {Z : Nat → List Int}
    (hr : ∀ r, r < cap → W.cell? (ad.add r) = some (.slice (A r) (L r) (C r)) ∧ L r ≤ C r ∧ C r ≤ maxLen ∧ (Z r).length = C r ∧ (∀ n ∈ Z r, (Lit.int .u8 n).wf = true) ∧ (A r = none → C r = 0) ∧
        ∀ a', A r = some a' → 0 ≤ a'.block ∧ ∀ c, c < C r → W.cell? (a'.add c) = some (.int .u8 ((Z r).getD c 0))) (hi : i < cap) :
    ∃ b off g v, some ad = some ⟨b, off, none⟩ ∧ W.cell? ⟨b, off + i, none⟩ = some v ∧ SlA W g v ((Z i).take (L i)) ∧ Bytes ((Z i).take (L i)) := by
  obtain ⟨hc, hLC, hCm, hZ, hwf, _, hcell⟩ := hr i (by omega)
  obtain ⟨hc0, _⟩ := hr 0 (by omega)
  have hsp : ad.spot = none := by
    have := World.cell?_spot hc0
    unfold Addr.add at this
    simpa using this
  obtain ⟨b, off, spot⟩ := ad
  simp only at hsp
  subst hsp
  rw [addr_add] at hc
  have hlt : ((Z i).take (L i)).length = L i := by rw [List.length_take]; omega
  have hBy : Bytes ((Z i).take (L i)) := fun x hx => u8_wf (hwf x (List.mem_of_mem_take hx))
  cases hA : A i with
  | none =>
    have hn := ‹A i = none → C i = 0› hA
    rw [hA] at hc
    have hL0 : L i = 0 := by omega
    rw [hL0, hn] at hc
    exact ⟨b, off, 0, _, rfl, hc, .inl ⟨rfl, by rw [hL0]; rfl⟩, hBy⟩
  | some a' =>
    rw [hA] at hc
    have hcell' := (hcell a' hA).2
    by_cases h0 : L i = 0
    · rw [h0] at hc
      exact ⟨b, off, 0, _, rfl, hc, .inr (.inl ⟨a', C i, rfl, by rw [h0]; rfl⟩), hBy⟩
    · have hz0 := hcell' 0 (by omega)
      have hsp' : a'.spot = none := by
        have := World.cell?_spot hz0
        unfold Addr.add at this
        simpa using this
      obtain ⟨b', off', spot'⟩ := a'
      simp only at hsp'
      subst hsp'
      refine ⟨b, off, b', _, rfl, hc, .inr (.inr ⟨off', C i, by rw [hlt], by omega, ?_, fun j y hy => ?_⟩), hBy⟩
      · rw [addr_add] at hz0
        exact World.block_lt_of_cell? (a := ⟨b', off' + 0, none⟩) W hz0
      · have hj : j < L i := by
          rw [← hlt]
          exact (List.getElem?_eq_some_iff.1 hy).1
        have hcj := hcell' j (by omega)
        rw [addr_add] at hcj
        rw [hcj]
        rw [List.getElem?_take, if_pos hj] at hy
        rw [List.getD_eq_getElem?_getD, hy]
        rfl

theorem rows_open {H : Type} {enc : TypeId × Value → H} {W : World} {held : Bool} {fuel : Nat} {a : Option Addr} {len cap : Nat} {x : DataW H × List MemPlace}
    (h : DataW.trod enc Try.prog W 0 (fun _ => true) held fuel 29 [.slice a len cap] = some x) : ∃ LL : List (List Int), LL.length = len ∧ len ≤ 9223372036854775807 ∧ Rws W a LL := by
  rcases open_int_rows Try.underlying29 Try.underlying22 Try.underlying5 (by kernel_rfl) (by kernel_rfl) h with ⟨hcs, _⟩ | ⟨ad, len', cap', A, L, C, Z, hcs, _, hl, hm, _, hr⟩
  · injection hcs with hcs
    injection hcs with h1 h2 h3
    subst h1 h2 h3
    exact ⟨[], rfl, by omega, fun i l hi => by cases hi⟩
  · injection hcs with hcs
    injection hcs with h1 h2 h3
    subst h1 h2 h3
    unfold maxLen at hm
    refine ⟨(List.range len).map (fun r => (Z r).take (L r)), by simp, by omega, fun i l hi => ?_⟩
    have hi' : i < len := by
      have := (List.getElem?_eq_some_iff.1 hi).1
      simpa using this
    rw [List.getElem?_map, List.getElem?_range hi'] at hi
    injection hi with hi
    subst hi
    exact row_at hr (by omega)

theorem back_law (w : World) (a : Option Addr) (len cap : Nat) (LL : List (List Int)) (hL : LL.length = len) (hm : len ≤ 9223372036854775807) (h : Rws w a LL) :
    Calls Try.prog 6 #[.slice a len cap] w fun e w' => e = .returned (.bool true) ∧ Kept (fun _ => False) w w' := by
  subst hL
  exact back_any w a cap LL h hm

end Go.Proofs.Ytfminplenemfnaa
