/- Rows of bytes that came in, and how many bytes they have. -/
import Derived.Test.YtfminplenemfnaaBulk
import Derived.Test.YtfminplenemfnaaY
namespace Go.Proofs.Ytfminplenemfnaa
open Go.RowKit Go.ChangeShapes Go.Deep

theorem lits_len {H : Type} (k : IntKind) (zs : List Int) : (lits (H := H) k zs).length = zs.length := by simp [lits]
theorem row_bulk {H : Type} (A : Option Addr) (L : Nat) (Z : List Int) (h : A = none → L = 0) : (Z.take L).length ≤ Rows.uptoBulk (intRow (H := H) .u8 A L Z) := by
  cases A with
  | none => rw [h rfl]; simp
  | some a =>
    have h1 := bulks.slice_le (lits (H := H) .u8 (Z.take L)) (lits .u8 (Z.drop L))
    rw [lits_len] at h1
    show _ ≤ Rows.uptoBulk (.slice (lits (H := H) .u8 (Z.take L)) (lits .u8 (Z.drop L)))
    omega
theorem flat_bulk {H : Type} (D : Nat → DataW H) (f : Nat → List Int) (rs : List Nat) (h : ∀ r ∈ rs, (f r).length ≤ Rows.uptoBulk (D r)) : (rs.map f).flatten.length ≤ Rows.uptoBulkAll (rs.map D) := by
  induction rs with
  | nil => simp
  | cons r rs ih =>
    have h1 := h r (by simp)
    have h2 := ih (fun x hx => h x (List.mem_cons_of_mem _ hx))
    simp only [List.map_cons, List.flatten_cons, List.length_append, Rows.uptoBulkAll]
    omega

theorem rows_open2 {H : Type} {enc : TypeId × Value → H} {W : World} {held : Bool} {fuel : Nat} {a : Option Addr} {len cap : Nat} {x : DataW H × List MemPlace}
    (h : DataW.trod enc Try.prog W 0 (fun _ => true) held fuel 29 [.slice a len cap] = some x) (hb : Rows.uptoBulk x.1 ≤ 1048576) :
    ∃ LL : List (List Int), LL.length = len ∧ len ≤ 9223372036854775807 ∧ Rws W a LL ∧ (∀ l ∈ LL, Bytes l) ∧ LL.flatten.length ≤ 1048576 := by
  have key : ∃ LL : List (List Int), LL.length = len ∧ len ≤ 9223372036854775807 ∧ Rws W a LL ∧ LL.flatten.length ≤ 1048576 := by
    rcases open_int_rows Try.underlying29 Try.underlying22 Try.underlying5 (by kernel_rfl) (by kernel_rfl) h with ⟨hcs, _⟩ | ⟨ad, len', cap', A, L, C, Z, hcs, _, hl, hm, hx, hr⟩
    · injection hcs with hcs
      injection hcs with h1 h2 h3
      subst h1 h2 h3
      exact ⟨[], rfl, by omega, (fun i l hi => by cases hi), by simp⟩
    · injection hcs with hcs
      injection hcs with h1 h2 h3
      subst h1 h2 h3
      unfold maxLen at hm
      refine ⟨(List.range len).map (fun r => (Z r).take (L r)), by simp, by omega, fun i l hi => ?_, ?_⟩
      · have hi' : i < len := by
          have := (List.getElem?_eq_some_iff.1 hi).1
          simpa using this
        rw [List.getElem?_map, List.getElem?_range hi'] at hi
        injection hi with hi
        subst hi
        exact row_at hr (by omega)
      · have h1 := flat_bulk (fun r => intRow (H := H) .u8 (A r) (L r) (Z r)) (fun r => (Z r).take (L r)) (List.range len) (fun r hr' => row_bulk _ _ _ (fun hn => by
          have hr' := List.mem_range.1 hr'
          obtain ⟨_, hLC, _, _, _, hz, _⟩ := hr r (by omega)
          have := hz hn
          omega))
        have h2 := bulks.slice_elems ((List.range len).map (fun r => intRow (H := H) .u8 (A r) (L r) (Z r))) ((List.range (cap - len)).map fun j => intRow .u8 (A (len + j)) (L (len + j)) (Z (len + j)))
        rw [hx] at hb
        simp only at hb
        omega
  obtain ⟨LL, h1, h2, h3, h4⟩ := key
  refine ⟨LL, h1, h2, h3, fun l hl => ?_, h4⟩
  obtain ⟨i, hi, rfl⟩ := List.mem_iff_getElem.1 hl
  obtain ⟨_, _, _, _, _, _, _, hB⟩ := h3 i _ (List.getElem?_eq_getElem hi)
  exact hB

theorem cuts_law (w : World) (a : Option Addr) (len cap : Nat) (LL : List (List Int)) (hL : LL.length = len) (hm : len ≤ 9223372036854775807) (h : Rws w a LL) (hB : ∀ l ∈ LL, Bytes l) (hs : LL.flatten.length ≤ 1048576) :
    Calls Try.prog 4 #[.slice a len cap] w fun e w' => e = .returned (.bool true) ∧ Kept (fun _ => False) w w' := by
  subst hL
  exact cuts_any w a cap LL h hB hm hs

end Go.Proofs.Ytfminplenemfnaa
