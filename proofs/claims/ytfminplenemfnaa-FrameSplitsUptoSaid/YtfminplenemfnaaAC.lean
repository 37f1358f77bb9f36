/- A slice of bytes that came in, and how many it has; FrameSplits. -/
import Derived.Test.YtfminplenemfnaaZ
import Derived.Test.YtfminplenemfnaaAB
import Derived.ChangeSlices
namespace Go.Proofs.Ytfminplenemfnaa
open Go.RowKit Go.ChangeShapes

theorem bytes_open2 {H : Type} {enc : TypeId × Value → H} {W : World} {spare : Nat → Bool} {held : Bool} {fuel : Nat} {a : Option Addr} {len cap : Nat} {x : DataW H × List MemPlace}
    (h : DataW.trod enc Try.prog W 0 spare held fuel 22 [.slice a len cap] = some x) : ∃ g l, SlA W g (.slice a len cap) l ∧ Bytes l ∧ l.length ≤ Rows.uptoBulk x.1 := by
  rcases open_ints Try.underlying22 Try.underlying5 (by kernel_rfl) h with ⟨hcs, _⟩ | ⟨ad, len', cap', zs, hcs, _, hl, _, hz, hx, hcell, hw⟩
  · injection hcs with hcs
    rw [hcs]
    exact ⟨0, [], .inl ⟨rfl, rfl⟩, (fun x hx => by cases hx), Nat.zero_le _⟩
  · injection hcs with hcs
    rw [hcs]
    have hzl : len' ≤ zs.length := by rw [hz]; split <;> omega
    have hlt : (zs.take len').length = len' := by rw [List.length_take]; omega
    have hbk : (zs.take len').length ≤ Rows.uptoBulk x.1 := by
      have h1 := bulks.slice_le (lits (H := H) .u8 (zs.take len')) (lits .u8 (zs.drop len'))
      rw [lits_len] at h1
      rw [hx]
      simp only
      omega
    refine ⟨ad.block, zs.take len', ?_, fun x hx => u8_wf (hw x (List.mem_of_mem_take hx)), hbk⟩
    by_cases h0 : len' = 0
    · subst h0
      exact .inr (.inl ⟨ad, cap', rfl, by simp⟩)
    · have hc0 := hcell 0 (by omega)
      have hsp : ad.spot = none := World.cell?_spot hc0
      obtain ⟨b, off, spot⟩ := ad
      simp only at hsp
      subst hsp
      refine .inr (.inr ⟨off, cap', by rw [hlt], by omega, World.block_lt_of_cell? (a := ⟨b, off, none⟩) W hc0, fun i y hy => ?_⟩)
      have hi : i < len' := by
        rw [← hlt]
        exact (List.getElem?_eq_some_iff.1 hy).1
      have hci := hcell i (by omega)
      have hadd : (⟨b, off, none⟩ : Addr).add i = ⟨b, off + i, none⟩ := by unfold Addr.add; split <;> simp_all
      rw [hadd] at hci
      rw [hci]
      rw [List.getElem?_take, if_pos hi] at hy
      rw [List.getD_eq_getElem?_getD, hy]
      rfl

end Go.Proofs.Ytfminplenemfnaa
