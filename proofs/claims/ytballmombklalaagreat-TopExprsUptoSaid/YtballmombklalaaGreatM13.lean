/- num.Show. -/
import Derived.Test.YtballmombklalaaGreatM12
import Derived.Outline
namespace Go.Proofs.YtballmombklalaaGreat
open Go.RowKit

/-- A number's digits ahead of others; so many at most. -/
def digs : Nat → Nat → List UInt8 → List UInt8
  | 0, _, s => s
  | n + 1, x, s => if x < 10 then (48 + x).toUInt8 :: s else digs n (x / 10) ((48 + x % 10).toUInt8 :: s)
/-- A number as it is written. -/
def showN (n : Int) : List UInt8 := if n < 0 then 45 :: digs 19 (absI n).toNat [] else digs 19 (absI n).toNat []

theorem ret_str {a b : List UInt8} (h : a = b) : Ending.returned (.string ⟨⟨a⟩⟩) = .returned (.string ⟨⟨b⟩⟩) := by rw [h]
theorem dig_toNat {x : Nat} (h : x < 10) : ((48 + x).toUInt8.toNat : Int) = 48 + (x : Int) := by
  rw [Lib.toUInt8_toNat (by omega)]; omega

/-- Cells of an array, one of them set. -/
theorem drop_set {cs : Array Value} {i : Nat} {v : Value} {l : List Value} (hi : i < cs.size) (h : cs.toList.drop (i + 1) = l) : (cs.setIfInBounds i v).toList.drop i = v :: l := by
  have hi' : i < cs.toList.length := by simpa using hi
  rw [Array.toList_setIfInBounds, List.set_eq_take_append_cons_drop, if_pos hi', List.drop_append, List.drop_eq_nil_of_le (by rw [List.length_take]; omega), List.length_take, Nat.min_eq_left (by omega), Nat.sub_self, List.drop_zero, h, List.nil_append]

/-- The end of a row of cells as a slice of bytes, turned into a text. -/
theorem conv_tail {w : World} {B at_ cap : Nat} {cs : Array Value} {T : TypeId} {f : Nat × Nat} {suf : List UInt8} (h : w.heap[B]? = some (.cells cs T f)) (hs : cs.toList.drop at_ = cellsOf encB suf) (n : Nat) (hn : n = suf.length) :
    (convert 34 9 (.slice (some ⟨B, at_, none⟩) n cap)).run Tryz.prog w = .ok (.string ⟨⟨suf⟩⟩) w := by
  subst hn
  refine conv_bytes suf (fun j x hx => ?_)
  have := cells_get encB 1 encB_len suf j x 0 (.int .u8 (x.toNat : Int)) hx rfl
  rw [Nat.mul_one, Nat.add_zero, ← hs, List.getElem?_drop] at this
  rw [cell_of_row w B (at_ + j) cs T f h]
  simpa using this

theorem room_slice (B l : Nat) (li : Int) (h : l < 20) (hli : li = (l : Int)) (W : World) : (Instr.sliceAt 212 (.pointer (some ⟨B, 0, none⟩)) (some (.int .i64 li)) none none).run Tryz.prog W = .ok (.slice (some ⟨B, l, none⟩) (20 - l) (20 - l)) W := by
  subst hli
  have hl : Tryz.prog.arrayLen 212 = 20 := by kernel_rfl
  have hs : (sizeOf (Tryz.prog.elem 212)).run Tryz.prog W = .ok 1 W := by kernel_rfl
  rw [run_sliceAt_array_l (P := Tryz.prog) W 212 ⟨B, 0, none⟩ (by kernel_rfl) .i64 (l : Int) (by omega) (by rw [hl]; omega), hs, hl]
  simp only [Result.andThen, slicedAt, Int.toNat_natCast]
  rw [if_neg (by omega), addr_add, Nat.mul_one, Nat.zero_add]

set_option maxHeartbeats 2000000 in
set_option maxRecDepth 100000 in
theorem nshow_any (n : Int) (w : World) (h : I64 n) : Calls Tryz.prog 122 #[.int .i64 n] w fun e w' => e = .returned (.string ⟨⟨showN n⟩⟩) ∧ Kept (fun _ => False) w w' := by
  have hs := size_any n w h
  obtain ⟨h1, h2⟩ := absI_bd h
  obtain ⟨a, ha⟩ := Int.eq_ofNat_of_zero_le h1
  rw [ha] at hs h2
  obtain ⟨D, hD⟩ : ∃ D, digs 19 a [] = D := ⟨_, rfl⟩
  have hsh0 : showN n = if n < 0 then 45 :: D else D := by unfold showN; rw [ha, Int.toNat_natCast, hD]
  generalize showN n = R at *
  have hsh : Hid (R = if n < 0 then 45 :: D else D) := hsh0
  have h10 : a < 10 ^ 19 := by omega
  clear hsh0 h ha h1
  go_enter Tryz.func122, Tryz.ntmps122
  go_wp2_with fail
  refine hs.mono ?_
  rintro e w' ⟨rfl, rfl⟩
  go_wp2_with fail
  go_loopg [3, 6] 19 (fun k xv av wr => ∃ (x at_ : Nat) (cs : Array Value) (suf : List UInt8), xv = .int .u64 x ∧ av = .int .i64 at_ ∧ 0 < k ∧ at_ = k + 1 ∧ at_ + suf.length = 20 ∧ x < 10 ^ k ∧ digs k x suf = D ∧
      wr.heap[w'.heap.size]? = some (.cells cs 212 (0, 0)) ∧ cs.size = 20 ∧ cs.toList.drop at_ = cellsOf encB suf ∧ Kept (fun _ => False) w' wr)
  case atStart => exact ⟨a, 20, _, [], rfl, rfl, by omega, by omega, rfl, h10, hD, heap_alloc_new w' _, rfl, rfl, (Kept.refl _ w').alloc _⟩
  case round =>
    obtain ⟨x, at_, cs, suf, rfl, rfl, hk0, rfl, hsl, hx, hdd, hblk, hcs, hdrop, hkept⟩ := hrel
    clear hD hs h10
    obtain ⟨k, rfl⟩ : ∃ k, gk = k + 1 := ⟨gk - 1, by omega⟩
    have hx19 : x < 10 ^ 19 := Nat.lt_of_lt_of_le hx (Nat.pow_le_pow_right (by decide) (by omega))
    have hc20 : k + 1 < cs.size := by omega
    have fz := frozen_of hblk (k + 1)
    have c0 := cell_of_row wr w'.heap.size (k + 1) _ _ _ hblk
    rw [Array.getElem?_eq_getElem hc20] at c0
    obtain ⟨dg, hdg⟩ : ∃ dg : UInt8, dg = (48 + x % 10).toUInt8 := ⟨_, rfl⟩
    have hdt : (dg.toNat : Int) = 48 + (x : Int) % 10 := by rw [hdg, dig_toNat (by omega)]; omega
    have hcv : IntKind.u8.wrap (48 + (x : Int) % 10) = dg.toNat := by rw [hdt, IntKind.wrap_u8]; omega
    have hblk2 := blk_set hblk (k + 1) (.int .u8 (48 + (x : Int) % 10))
    have hdrop2 : (cs.setIfInBounds (k + 1) (.int .u8 (48 + (x : Int) % 10))).toList.drop (k + 1) = cellsOf encB (dg :: suf) := by rw [← hdt]; exact drop_set hc20 hdrop
    have hkept2 : Kept (fun _ => False) w' (wr.setCell ⟨w'.heap.size, k + 1, none⟩ (.int .u8 (48 + (x : Int) % 10))) := hkept.trans' ((Kept.refl (fun j => j = w'.heap.size) wr).setCell (p := ⟨w'.heap.size, k + 1, none⟩) (fun _ => rfl) _) (fun _ _ q => q) (fun i hi q => by omega)
    have hcs2 : (cs.setIfInBounds (k + 1) (.int .u8 (48 + (x : Int) % 10))).size = 20 := by simpa using hcs
    have hsl2 : (k + 1) + (dg :: suf).length = 20 := by simp only [List.length_cons]; omega
    rw [digs, ← hdg] at hdd
    have hpos : 0 ≤ (x : Int) := by omega
    generalize hcs' : cs.setIfInBounds (k + 1) (.int .u8 (48 + (x : Int) % 10)) = cs' at *
    generalize hW2 : wr.setCell ⟨w'.heap.size, k + 1, none⟩ (.int .u8 (48 + (x : Int) % 10)) = W2 at *
    clear hcs' hcs hdrop hblk hcv hdt
    by_cases h0 : x < 10
    · rw [if_pos h0] at hdd
      have hdg2 : (48 + x).toUInt8 = dg := by rw [hdg, Nat.mod_eq_of_lt h0]
      rw [hdg2] at hdd
      subst hdd
      have hq : ((x : Int) / 10 == 0) = true := by simp; omega
      have e2 : ((k + 1 : Nat) : Int) = (k : Int) + 1 := by omega
      by_cases hn : n < 0
      · have hck : k < cs'.size := by omega
        have hblk3 := blk_set hblk2 k (.int .u8 45)
        have fz2 := frozen_of hblk2 k
        have c2 := cell_of_row W2 w'.heap.size k _ _ _ hblk2
        rw [Array.getElem?_eq_getElem hck] at c2
        have hdrop3 : (cs'.setIfInBounds k (.int .u8 45)).toList.drop k = cellsOf encB (45 :: dg :: suf) := drop_set hck hdrop2
        have hkept3 : Hid (Kept (fun _ => False) w' (W2.setCell ⟨w'.heap.size, k, none⟩ (.int .u8 45))) := hkept2.trans' ((Kept.refl (fun j => j = w'.heap.size) W2).setCell (p := ⟨w'.heap.size, k, none⟩) (fun _ => rfl) _) (fun _ _ q => q) (fun i hi q => by omega)
        have hcv := fun cap => conv_tail (cap := cap) hblk3 hdrop3 (20 - k) (by simp only [List.length_cons] at hsl2 ⊢; omega)
        have hsl3 := fun wx => room_slice w'.heap.size k (k : Int) (by omega) rfl wx
        have hR : Hid (R = 45 :: dg :: suf) := by unfold Hid; rw [hsh.out, if_pos hn]
        clear hblk2 hdrop2 hsl2 hkept2 hcs2 hdg hdg2 hblk3 hdrop3 hkept hsh
        go_wp2_with fail
        go_ret
        exact ⟨ret_str hR.out.symm, hkept3⟩
      · have hcv := fun cap => conv_tail (cap := cap) hblk2 hdrop2 (19 - k) (by omega)
        have hsl3 := fun wx => room_slice w'.heap.size (k + 1) ((k : Int) + 1) (by omega) (by omega) wx
        have hR : Hid (R = dg :: suf) := by unfold Hid; rw [hsh.out, if_neg hn]
        have hkept3 : Hid (Kept (fun _ => False) w' W2) := hkept2
        have hn' : 0 ≤ n := by omega
        have hp20 : (k : Int) + 1 ≤ 20 := by omega
        clear hblk2 hdrop2 hsl2 hkept2 hcs2 hdg hdg2 hkept hsh hn
        go_wp2_with fail
        go_ret
        exact ⟨ret_str hR.out.symm, hkept3⟩
    · rw [if_neg h0] at hdd
      have hdd2 : Hid (digs k (x / 10) (dg :: suf) = D) := hdd
      have hq : ((x : Int) / 10 == 0) = false := by rw [beq_eq_false_iff_ne]; omega
      have hall : Hid (W2.heap[w'.heap.size]? = some (.cells cs' 212 (0, 0)) ∧ cs'.size = 20 ∧ cs'.toList.drop (k + 1) = cellsOf encB (dg :: suf) ∧ Kept (fun _ => False) w' W2) := ⟨hblk2, hcs2, hdrop2, hkept2⟩
      have hk1 : 0 < k := by
        rcases Nat.eq_zero_or_pos k with e | e
        · subst e; simp at hx; omega
        · exact e
      have hxk : x / 10 < 10 ^ k := by rw [Nat.pow_succ] at hx; omega
      clear hblk2 hdrop2 hkept2 hcs2 hdg hkept hdd hsh
      go_wp2_with fail
      go_roundg k
      case measure => omega
      case rel => exact ⟨x / 10, k + 1, cs', dg :: suf, int_eq (by omega), int_eq (by omega), hk1, rfl, hsl2, hxk, hdd2, hall⟩
end Go.Proofs.YtballmombklalaaGreat
