/- bin.Reader: reading what is there. -/
import Derived.Test.YtballmombklalaaGreatM7
import Derived.Lib.VarintBits
namespace Go.Proofs.YtballmombklalaaGreat
open Go.RowKit

/-- The reader in block p: so many of the bytes B are read; nothing has failed. -/
structure RD (w : World) (p : Nat) (B : List UInt8) (at_ : Nat) : Prop where
  all : ∃ v, w.heap[p]? = some (.cells #[v, .int .i64 at_, .int .i64 0] 69 (0, 0)) ∧ Row encB 1 5 w v B
  le : at_ ≤ B.length
  small : B.length ≤ 1048576
theorem RD.open {w : World} {p : Nat} {B : List UInt8} {i : Nat} (h : RD w p B i) : ∃ A c, w.heap[p]? = some (.cells #[.slice A B.length c, .int .i64 i, .int .i64 0] 69 (0, 0)) ∧ Row encB 1 5 w (.slice A B.length c) B ∧
    w.cell? ⟨p, 0, none⟩ = some (.slice A B.length c) ∧ w.cell? ⟨p, 1, none⟩ = some (.int .i64 i) ∧ w.cell? ⟨p, 2, none⟩ = some (.int .i64 0) ∧ w.frozen? ⟨p, 1, none⟩ = false ∧ p < w.heap.size ∧ (Value.slice A B.length c).ownBlock ≠ some p := by
  obtain ⟨v, hb, hr⟩ := h.all
  obtain ⟨A, c, rfl, _, _⟩ := hr.shape
  refine ⟨A, c, hb, hr, ?_, ?_, ?_, frozen_of hb 1, (Array.getElem?_eq_some_iff.1 hb).1, hr.other hb (by decide)⟩
  · rw [cell_of_row w p 0 _ _ _ hb]; rfl
  · rw [cell_of_row w p 1 _ _ _ hb]; rfl
  · rw [cell_of_row w p 2 _ _ _ hb]; rfl
theorem RD.same {w w' : World} {p : Nat} {B : List UInt8} {i : Nat} (h : RD w p B i) (k : Kept (fun _ => False) w w') : RD w' p B i := by
  obtain ⟨v, hb, hr⟩ := h.all
  exact ⟨⟨v, k.heap hb (fun q => q), hr.same k⟩, h.le, h.small⟩
theorem RD.set {w : World} {p : Nat} {B : List UInt8} {i j : Nat} (h : RD w p B i) (hj : j ≤ B.length) : RD (w.setCell ⟨p, 1, none⟩ (.int .i64 j)) p B j ∧ Kept (fun k => k = p) w (w.setCell ⟨p, 1, none⟩ (.int .i64 j)) := by
  obtain ⟨v, hb, hr⟩ := h.all
  have k : Kept (fun k => k = p) w (w.setCell ⟨p, 1, none⟩ (.int .i64 j)) := (Kept.refl (fun k => k = p) w).setCell (p := ⟨p, 1, none⟩) (fun _ => rfl) _
  refine ⟨⟨⟨v, blk_set hb 1 _, hr.kept k (fun g hg e => ?_)⟩, hj, h.small⟩, k⟩
  subst e
  exact hr.other hb (by decide) hg

theorem err_any (w : World) (p : Nat) (B : List UInt8) (i : Nat) (h : RD w p B i) :
    Calls Tryz.prog 20 #[.pointer (some ⟨p, 0, none⟩)] w fun e w' => e = .returned (.int .i64 0) ∧ w' = w := by
  obtain ⟨A, c, _, _, c0, c1, c2, _, _, _⟩ := h.open
  go_enter Tryz.func20, Tryz.ntmps20
  go_wp2_with fail
  go_ret
  exact ⟨rfl, rfl⟩

theorem left_any (w : World) (p : Nat) (B : List UInt8) (i : Nat) (h : RD w p B i) :
    Calls Tryz.prog 90 #[.pointer (some ⟨p, 0, none⟩)] w fun e w' => e = .returned (.int .i64 ((B.length : Int) - i)) ∧ Kept (fun _ => False) w w' := by
  obtain ⟨A, c, _, _, c0, c1, c2, _, _, _⟩ := h.open
  have hle := h.le
  have hsm := h.small
  have hw : wrap64 ((B.length : Int) - i) = (B.length : Int) - i := by simp only [wrap64]; omega
  go_enter Tryz.func90, Tryz.ntmps90
  go_wp2_with fail
  go_quiet (fail)
  go_wp2_with fail
  go_ret
  exact ⟨rfl, drew_kept w _⟩

theorem rleft_any (w : World) (p : Nat) (B : List UInt8) (i : Nat) (h : RD w p B i) :
    Calls Tryz.prog 94 #[.pointer (some ⟨p, 0, none⟩)] w fun e w' => e = .returned (.int .i64 ((B.length : Int) - i)) ∧ Kept (fun _ => False) w w' := by
  have hl := left_any w p B i h
  go_enter Tryz.func94, Tryz.ntmps94
  go_wp2_with fail
  refine hl.mono ?_
  rintro e w' ⟨rfl, k⟩
  go_wp2_with fail
  go_ret
  exact ⟨rfl, k⟩

theorem next_any (w : World) (p : Nat) (B : List UInt8) (i : Nat) (h : RD w p B i) (x : UInt8) (hx : B[i]? = some x) :
    Calls Tryz.prog 50 #[.pointer (some ⟨p, 0, none⟩)] w fun e w' => e = .returned (.tuple #[.int .u8 (x.toNat : Int), .bool true]) ∧ RD w' p B (i + 1) ∧ Kept (fun k => k = p) w w' := by
  have hl := left_any w p B i h
  have hlt : i < B.length := (List.getElem?_eq_some_iff.1 hx).1
  have hsm := h.small
  have hne : ((B.length : Int) - i == 0) = false := by simp; omega
  go_enter Tryz.func50, Tryz.ntmps50
  go_wp2_with fail
  refine hl.mono ?_
  rintro e w1 ⟨rfl, k1⟩
  have h1 := h.same k1
  obtain ⟨A, c, _, hr, c0, c1, c2, f1, _, hnp⟩ := h1.open
  obtain ⟨h2, k2⟩ := h1.set (j := i + 1) (by omega)
  obtain ⟨A2, cc, hv, _, _, hs⟩ := hr.src encB_len (fun k => k = p) (fun j hj e => by subst e; exact hnp hj)
  injection hv with hv1 hv2 hv3
  subst hv1 hv3
  obtain ⟨b, off, rfl, hbp, hc⟩ := hs i x hx
  have hb := hc 0 _ rfl
  rw [Nat.mul_one, Nat.add_zero] at hb
  have hi : (i : Int) < (B.length : Int) := by omega
  have hwi : IntKind.i64.wrap (i : Int) = i := IntWalk.i64_in _ (by omega)
  have e1 : ((i + 1 : Nat) : Int) = (i : Int) + 1 := by omega
  have hRD : Hid (RD (w1.setCell ⟨p, 1, none⟩ (.int .i64 ((i : Int) + 1))) p B (i + 1)) := by rw [← e1]; exact h2
  have hK : Hid (Kept (fun k => k = p) w (w1.setCell ⟨p, 1, none⟩ (.int .i64 ((i : Int) + 1)))) := by rw [← e1]; exact (k1.mono (fun _ _ q => q.elim)).trans k2
  clear hc hs hr h2 k2 h1 k1 hx e1 hnp
  go_wp2_with fail
  go_quiet (fail)
  go_wp2_with fail
  go_ret2
  exact ⟨rfl, hRD.same (drew_kept _ _), Kept.trans hK ((Kept.refl _ _).drewN _)⟩

theorem byte_any (w : World) (p : Nat) (B : List UInt8) (i : Nat) (h : RD w p B i) (x : UInt8) (hx : B[i]? = some x) :
    Calls Tryz.prog 19 #[.pointer (some ⟨p, 0, none⟩)] w fun e w' => e = .returned (.int .u8 (x.toNat : Int)) ∧ RD w' p B (i + 1) ∧ Kept (fun k => k = p) w w' := by
  have hn := next_any w p B i h x hx
  go_enter Tryz.func19, Tryz.ntmps19
  go_wp2_with fail
  refine hn.mono ?_
  rintro e w1 ⟨rfl, k1, k2⟩
  go_wp2_with fail
  go_ret
  exact ⟨rfl, k1, k2⟩
end Go.Proofs.YtballmombklalaaGreat

/- bin.gather: groups that are there are put together. -/
namespace Go.Proofs.YtballmombklalaaGreat
open Go.RowKit

theorem uv_step (B : List UInt8) (i r : Nat) (rest : List UInt8) (h : B.drop i = Lib.uvarint r ++ rest) (hr : 128 ≤ r) :
    B[i]? = some (r % 128 + 128).toUInt8 ∧ B.drop (i + 1) = Lib.uvarint (r / 128) ++ rest := by
  rw [Lib.uvarint_big hr] at h
  constructor
  · have := congrArg (fun l => l[0]?) h
    simpa using this
  · have := congrArg (fun l => l.drop 1) h
    simpa using this
theorem uv_last (B : List UInt8) (i r : Nat) (rest : List UInt8) (h : B.drop i = Lib.uvarint r ++ rest) (hr : r < 128) :
    B[i]? = some r.toUInt8 ∧ B.drop (i + 1) = rest := by
  rw [Lib.uvarint_small hr] at h
  constructor
  · have := congrArg (fun l => l[0]?) h
    simpa using this
  · have := congrArg (fun l => l.drop 1) h
    simpa using this

/-- The state of the loop: j groups are read. -/
structure GI (B : List UInt8) (i n : Nat) (rest : List UInt8) (j a r : Nat) : Prop where
  sum : n = a + r * 128 ^ j
  lt : a < 128 ^ j
  pos : 0 < j → 0 < r
  at_ : B.drop (i + j) = Lib.uvarint r ++ rest
  len : j + (Lib.uvarint r).length = (Lib.uvarint n).length
theorem GI.next {B : List UInt8} {i n j a r : Nat} {rest : List UInt8} (h : GI B i n rest j a r) (hr : 128 ≤ r) : GI B i n rest (j + 1) (a + (r % 128) * 128 ^ j) (r / 128) := by
  obtain ⟨h1, h2, h3, h4, h5⟩ := h
  have hp : 128 ^ (j + 1) = 128 * 128 ^ j := by rw [Nat.pow_succ]; omega
  refine ⟨?_, ?_, fun _ => by omega, (uv_step B (i + j) r rest h4 hr).2, ?_⟩
  · rw [h1, hp]
    have : r * 128 ^ j = r / 128 * (128 * 128 ^ j) + r % 128 * 128 ^ j := by
      have e := Nat.div_add_mod r 128
      calc r * 128 ^ j = (128 * (r / 128) + r % 128) * 128 ^ j := by rw [e]
        _ = _ := by rw [Nat.add_mul, Nat.mul_comm 128 (r / 128), Nat.mul_assoc]
    omega
  · rw [hp]
    have hm : r % 128 < 128 := Nat.mod_lt _ (by decide)
    have : (r % 128) * 128 ^ j ≤ 127 * 128 ^ j := Nat.mul_le_mul_right _ (by omega)
    omega
  · rw [Lib.uvarint_big hr, List.length_cons] at h5
    omega

theorem or_at (K : Nat) {a x : Nat} (hK : 0 < K) (ha : a < K) (hx : x < 256) (hb : (x % 128) * K < 18446744073709551616)
    (ho : ∀ y z : Int, 0 ≤ y → y < K → 0 ≤ z → z % K = 0 → z < 18446744073709551616 → bits .or .u64 y z = y + z) :
    bits .or .u64 (a : Int) (IntKind.u64.wrap (IntKind.u64.wrap (bits .and .u8 (x : Int) 127) * (K : Int))) = ((a + (x % 128) * K : Nat) : Int) := by
  have e1 : IntKind.u64.wrap (bits .and .u8 (x : Int) 127) = ((x % 128 : Nat) : Int) := by
    rw [u8_and127 (x : Int) (by omega) (by omega), IntKind.wrap_u64]; omega
  rw [e1, ← Int.natCast_mul]
  generalize hz : x % 128 * K = z at *
  have e2 : IntKind.u64.wrap (z : Int) = (z : Int) := by rw [IntKind.wrap_u64]; omega
  rw [e2, ho a z (by omega) (by omega) (by omega) (by rw [← hz, Int.natCast_mul, Int.mul_emod_left]) (by omega)]
  omega

theorem or_step (j : Nat) {a x : Nat} (hj : j ≤ 9) (ha : a < 128 ^ j) (hx : x < 256) (h9 : j = 9 → x % 128 ≤ 1) :
    bits .or .u64 (a : Int) (IntKind.u64.wrap (IntKind.u64.wrap (bits .and .u8 (x : Int) 127) * ((128 ^ j : Nat) : Int))) = ((a + (x % 128) * 128 ^ j : Nat) : Int) := by
  have hc : j = 0 ∨ j = 1 ∨ j = 2 ∨ j = 3 ∨ j = 4 ∨ j = 5 ∨ j = 6 ∨ j = 7 ∨ j = 8 ∨ j = 9 := by omega
  rcases hc with rfl | rfl | rfl | rfl | rfl | rfl | rfl | rfl | rfl | rfl
  · exact or_at 1 (by omega) (by omega) (by omega) (by omega) (fun y z a1 a2 a3 a4 a5 => u64_orv0 y z a1 (by omega) a3 (by omega) a5)
  · exact or_at 128 (by omega) (by omega) (by omega) (by omega) (fun y z a1 a2 a3 a4 a5 => u64_orv7 y z a1 (by omega) a3 (by omega) a5)
  · exact or_at 16384 (by omega) (by omega) (by omega) (by omega) (fun y z a1 a2 a3 a4 a5 => u64_orv14 y z a1 (by omega) a3 (by omega) a5)
  · exact or_at 2097152 (by omega) (by omega) (by omega) (by omega) (fun y z a1 a2 a3 a4 a5 => u64_orv21 y z a1 (by omega) a3 (by omega) a5)
  · exact or_at 268435456 (by omega) (by omega) (by omega) (by omega) (fun y z a1 a2 a3 a4 a5 => u64_orv28 y z a1 (by omega) a3 (by omega) a5)
  · exact or_at 34359738368 (by omega) (by omega) (by omega) (by omega) (fun y z a1 a2 a3 a4 a5 => u64_orv35 y z a1 (by omega) a3 (by omega) a5)
  · exact or_at 4398046511104 (by omega) (by omega) (by omega) (by omega) (fun y z a1 a2 a3 a4 a5 => u64_orv42 y z a1 (by omega) a3 (by omega) a5)
  · exact or_at 562949953421312 (by omega) (by omega) (by omega) (by omega) (fun y z a1 a2 a3 a4 a5 => u64_orv49 y z a1 (by omega) a3 (by omega) a5)
  · exact or_at 72057594037927936 (by omega) (by omega) (by omega) (by omega) (fun y z a1 a2 a3 a4 a5 => u64_orv56 y z a1 (by omega) a3 (by omega) a5)
  · exact or_at 9223372036854775808 (by omega) (by omega) (by omega) (by omega) (fun y z a1 a2 a3 a4 a5 => u64_orv63 y z a1 (by omega) a3 (by omega) a5)

theorem GI.small {B : List UInt8} {i n j a r : Nat} {rest : List UInt8} (h : GI B i n rest j a r) (hn : n < 18446744073709551616) : j = 9 → r ≤ 1 := by
  rintro rfl
  have h1 := h.sum
  rcases Nat.lt_or_ge 1 r with h2 | h2
  · have : 2 * 128 ^ 9 ≤ r * 128 ^ 9 := Nat.mul_le_mul_right _ h2
    omega
  · exact h2

set_option maxRecDepth 100000 in
set_option maxHeartbeats 4000000 in
theorem gather_any (w : World) (p : Nat) (B : List UInt8) (i m n : Nat) (rest : List UInt8) (h : RD w p B i) (hn : n < 18446744073709551616) (hB : B.drop i = Lib.uvarint n ++ rest) (hm : (Lib.uvarint n).length ≤ m) (hm10 : m ≤ 10) :
    Calls Tryz.prog 118 #[.func (.func 50) #[.pointer (some ⟨p, 0, none⟩)] #[], .int .i64 m] w fun e w' =>
      e = .returned (.tuple #[.int .u64 n, .bool true, .int .i64 0]) ∧ RD w' p B (i + (Lib.uvarint n).length) ∧ Kept (fun k => k = p) w w' := by
  have eg : ∀ args w, (callFunc 50 args).run Tryz.prog w = .ok (.enter 50 args) w := enters_of Tryz.func50 (by kernel_rfl) rfl
  have hgi : GI B i n rest 0 0 n := ⟨by simp, by simp, fun q => by omega, hB, by simp⟩
  clear hB
  go_enter Tryz.func118, Tryz.ntmps118
  go_wp2_with fail
  go_loopg [7, 12] 11 (fun k xv iv wr => ∃ (j a r : Nat), j + k = 11 ∧ j < m ∧ xv = .int .u64 a ∧ iv = .int .i64 j ∧ GI B i n rest j a r ∧ RD wr p B (i + j) ∧ Kept (fun k => k = p) w wr)
  case atStart =>
    have hu := Lib.uvarint_pos n
    exact ⟨0, 0, n, by omega, by omega, rfl, rfl, hgi, h, Kept.refl _ w⟩
  case round =>
    obtain ⟨j, a, r, hk, hjm, rfl, rfl, hg, hrd, hkept⟩ := hrel
    have hsm := hg.small hn
    have hlt := hg.lt
    have hpos := hg.pos
    have hup := Lib.uvarint_pos (r / 128)
    by_cases hr : 128 ≤ r
    · obtain ⟨hx, hat⟩ := uv_step B (i + j) r rest hg.at_ hr
      have hnx := next_any wr p B (i + j) hrd _ hx
      have hxv : (r % 128 + 128).toUInt8.toNat = r % 128 + 128 := Lib.toUInt8_toNat (by omega)
      have hg2 := hg.next hr
      have hl2 := hg2.len
      have hor := or_step j (x := r % 128 + 128) (by omega) hlt (by omega) (by omega)
      have e1 : (r % 128 + 128) % 128 = r % 128 := by omega
      rw [e1] at hor
      rw [hxv] at hnx
      have b1 : (128 : Int) ≤ ((r % 128 + 128 : Nat) : Int) := by omega
      generalize r % 128 + 128 = x at *
      generalize a + r % 128 * 128 ^ j = a' at *
      have hg2' : Hid (GI B i n rest (j + 1) a' (r / 128)) := hg2
      have hl2' : Hid (j + 1 + (Lib.uvarint (r / 128)).length = (Lib.uvarint n).length) := hl2
      have hj9 : j ≤ 8 := by
        rcases Nat.lt_or_ge j 9 with q | q
        · omega
        · have := hsm (by omega); omega
      clear hg hg2 hl2 hat hx hxv e1 hlt hpos hsm hgi h hrd
      have hc : j = 0 ∨ j = 1 ∨ j = 2 ∨ j = 3 ∨ j = 4 ∨ j = 5 ∨ j = 6 ∨ j = 7 ∨ j = 8 := by omega
      rcases hc with rfl | rfl | rfl | rfl | rfl | rfl | rfl | rfl | rfl
      · have hor2 : Hid _ := hor
        clear hor
        have hm' : Hid _ := hm
        clear hm
        go_wp2_with fail
        refine hnx.mono ?_
        rintro e w' ⟨rfl, hrd2, k2⟩
        go_wp2_with fail
        go_roundg (gk - 1)
        case measure => omega
        case rel =>
          have q1 := hm'
          have q2 := hl2'
          unfold Hid at q1 q2
          exact ⟨1, a', r / 128, by omega, by omega, int_eq (by have q := hor2; unfold Hid at q; first | exact q | simpa using q), rfl, hg2', hrd2, hkept.trans k2⟩
      · have hor2 : Hid _ := hor
        clear hor
        have hm' : Hid _ := hm
        clear hm
        go_wp2_with fail
        refine hnx.mono ?_
        rintro e w' ⟨rfl, hrd2, k2⟩
        go_wp2_with fail
        go_roundg (gk - 1)
        case measure => omega
        case rel =>
          have q1 := hm'
          have q2 := hl2'
          unfold Hid at q1 q2
          exact ⟨2, a', r / 128, by omega, by omega, int_eq (by have q := hor2; unfold Hid at q; first | exact q | simpa using q), rfl, hg2', hrd2, hkept.trans k2⟩
      · have hor2 : Hid _ := hor
        clear hor
        have hm' : Hid _ := hm
        clear hm
        go_wp2_with fail
        refine hnx.mono ?_
        rintro e w' ⟨rfl, hrd2, k2⟩
        go_wp2_with fail
        go_roundg (gk - 1)
        case measure => omega
        case rel =>
          have q1 := hm'
          have q2 := hl2'
          unfold Hid at q1 q2
          exact ⟨3, a', r / 128, by omega, by omega, int_eq (by have q := hor2; unfold Hid at q; first | exact q | simpa using q), rfl, hg2', hrd2, hkept.trans k2⟩
      · have hor2 : Hid _ := hor
        clear hor
        have hm' : Hid _ := hm
        clear hm
        go_wp2_with fail
        refine hnx.mono ?_
        rintro e w' ⟨rfl, hrd2, k2⟩
        go_wp2_with fail
        go_roundg (gk - 1)
        case measure => omega
        case rel =>
          have q1 := hm'
          have q2 := hl2'
          unfold Hid at q1 q2
          exact ⟨4, a', r / 128, by omega, by omega, int_eq (by have q := hor2; unfold Hid at q; first | exact q | simpa using q), rfl, hg2', hrd2, hkept.trans k2⟩
      · have hor2 : Hid _ := hor
        clear hor
        have hm' : Hid _ := hm
        clear hm
        go_wp2_with fail
        refine hnx.mono ?_
        rintro e w' ⟨rfl, hrd2, k2⟩
        go_wp2_with fail
        go_roundg (gk - 1)
        case measure => omega
        case rel =>
          have q1 := hm'
          have q2 := hl2'
          unfold Hid at q1 q2
          exact ⟨5, a', r / 128, by omega, by omega, int_eq (by have q := hor2; unfold Hid at q; first | exact q | simpa using q), rfl, hg2', hrd2, hkept.trans k2⟩
      · have hor2 : Hid _ := hor
        clear hor
        have hm' : Hid _ := hm
        clear hm
        go_wp2_with fail
        refine hnx.mono ?_
        rintro e w' ⟨rfl, hrd2, k2⟩
        go_wp2_with fail
        go_roundg (gk - 1)
        case measure => omega
        case rel =>
          have q1 := hm'
          have q2 := hl2'
          unfold Hid at q1 q2
          exact ⟨6, a', r / 128, by omega, by omega, int_eq (by have q := hor2; unfold Hid at q; first | exact q | simpa using q), rfl, hg2', hrd2, hkept.trans k2⟩
      · have hor2 : Hid _ := hor
        clear hor
        have hm' : Hid _ := hm
        clear hm
        go_wp2_with fail
        refine hnx.mono ?_
        rintro e w' ⟨rfl, hrd2, k2⟩
        go_wp2_with fail
        go_roundg (gk - 1)
        case measure => omega
        case rel =>
          have q1 := hm'
          have q2 := hl2'
          unfold Hid at q1 q2
          exact ⟨7, a', r / 128, by omega, by omega, int_eq (by have q := hor2; unfold Hid at q; first | exact q | simpa using q), rfl, hg2', hrd2, hkept.trans k2⟩
      · have hor2 : Hid _ := hor
        clear hor
        have hm' : Hid _ := hm
        clear hm
        go_wp2_with fail
        refine hnx.mono ?_
        rintro e w' ⟨rfl, hrd2, k2⟩
        go_wp2_with fail
        go_roundg (gk - 1)
        case measure => omega
        case rel =>
          have q1 := hm'
          have q2 := hl2'
          unfold Hid at q1 q2
          exact ⟨8, a', r / 128, by omega, by omega, int_eq (by have q := hor2; unfold Hid at q; first | exact q | simpa using q), rfl, hg2', hrd2, hkept.trans k2⟩
      · have hor2 : Hid _ := hor
        clear hor
        have hm' : Hid _ := hm
        clear hm
        go_wp2_with fail
        refine hnx.mono ?_
        rintro e w' ⟨rfl, hrd2, k2⟩
        go_wp2_with fail
        go_roundg (gk - 1)
        case measure => omega
        case rel =>
          have q1 := hm'
          have q2 := hl2'
          unfold Hid at q1 q2
          exact ⟨9, a', r / 128, by omega, by omega, int_eq (by have q := hor2; unfold Hid at q; first | exact q | simpa using q), rfl, hg2', hrd2, hkept.trans k2⟩
    · obtain ⟨hx, hat⟩ := uv_last B (i + j) r rest hg.at_ (by omega)
      have hnx := next_any wr p B (i + j) hrd _ hx
      have hxv : r.toUInt8.toNat = r := Lib.toUInt8_toNat (by omega)
      have hl2 := hg.len
      have hor := or_step j (x := r) (by omega) hlt (by omega) (by omega)
      have e1 : r % 128 = r := by omega
      have hsum := hg.sum
      rw [e1, ← hsum] at hor
      rw [hxv] at hnx
      rw [Lib.uvarint_small (by omega), List.length_singleton] at hl2
      have b1 : (r : Int) < 128 := by omega
      have hl2' : Hid (j + 1 = (Lib.uvarint n).length) := hl2
      clear hg hl2 hat hx hxv e1 hlt hgi h hrd hsum hup
      have hc : j = 0 ∨ j = 1 ∨ j = 2 ∨ j = 3 ∨ j = 4 ∨ j = 5 ∨ j = 6 ∨ j = 7 ∨ j = 8 ∨ j = 9 := by omega
      rcases hc with rfl | rfl | rfl | rfl | rfl | rfl | rfl | rfl | rfl | rfl
      · rcases Nat.eq_zero_or_pos r with rfl | hp0
        · have hor2 : Hid _ := hor
          have hm' : Hid _ := hm
          clear hor hm hpos hsm
          go_wp2_with fail
          refine hnx.mono ?_
          rintro e w' ⟨rfl, hrd2, k2⟩
          go_wp2_with fail
          all_goals (refine bodyPost_ret (v := .tuple #[.int .u64 (n : Int), .bool true, .int .i64 0]) (by first | (simp [results, Tryz.results118, go_sem]; done) | (have q := hor2; unfold Hid at q; simp at q; simp [results, Tryz.results118, go_sem, q]; done) | (have q := hor2; unfold Hid at q; simp [results, Tryz.results118, go_sem]; simpa using q)) rfl ⟨rfl, ?_, hkept.trans k2⟩)
          all_goals (have q := hl2'; unfold Hid at q; rw [← q]; exact hrd2)
        · have b2 : ((r : Int) == 0) = false := by simp; omega
          have hor2 : Hid _ := hor
          have hm' : Hid _ := hm
          clear hor hm hpos hsm
          go_wp2_with fail
          refine hnx.mono ?_
          rintro e w' ⟨rfl, hrd2, k2⟩
          go_wp2_with fail
          all_goals (refine bodyPost_ret (v := .tuple #[.int .u64 (n : Int), .bool true, .int .i64 0]) (by first | (simp [results, Tryz.results118, go_sem]; done) | (have q := hor2; unfold Hid at q; simp at q; simp [results, Tryz.results118, go_sem, q]; done) | (have q := hor2; unfold Hid at q; simp [results, Tryz.results118, go_sem]; simpa using q)) rfl ⟨rfl, ?_, hkept.trans k2⟩)
          all_goals (have q := hl2'; unfold Hid at q; rw [← q]; exact hrd2)
      · have hor2 : Hid _ := hor
        have hm' : Hid _ := hm
        have b2 : ((r : Int) == 0) = false := by simp; have q := hpos (by decide); omega
        clear hor hm hpos hsm
        go_wp2_with fail
        refine hnx.mono ?_
        rintro e w' ⟨rfl, hrd2, k2⟩
        go_wp2_with fail
        all_goals (refine bodyPost_ret (v := .tuple #[.int .u64 (n : Int), .bool true, .int .i64 0]) (by first | (simp [results, Tryz.results118, go_sem]; done) | (have q := hor2; unfold Hid at q; simp at q; simp [results, Tryz.results118, go_sem, q]; done) | (have q := hor2; unfold Hid at q; simp [results, Tryz.results118, go_sem]; simpa using q)) rfl ⟨rfl, ?_, hkept.trans k2⟩)
        all_goals (have q := hl2'; unfold Hid at q; rw [← q]; exact hrd2)
      · have hor2 : Hid _ := hor
        have hm' : Hid _ := hm
        have b2 : ((r : Int) == 0) = false := by simp; have q := hpos (by decide); omega
        clear hor hm hpos hsm
        go_wp2_with fail
        refine hnx.mono ?_
        rintro e w' ⟨rfl, hrd2, k2⟩
        go_wp2_with fail
        all_goals (refine bodyPost_ret (v := .tuple #[.int .u64 (n : Int), .bool true, .int .i64 0]) (by first | (simp [results, Tryz.results118, go_sem]; done) | (have q := hor2; unfold Hid at q; simp at q; simp [results, Tryz.results118, go_sem, q]; done) | (have q := hor2; unfold Hid at q; simp [results, Tryz.results118, go_sem]; simpa using q)) rfl ⟨rfl, ?_, hkept.trans k2⟩)
        all_goals (have q := hl2'; unfold Hid at q; rw [← q]; exact hrd2)
      · have hor2 : Hid _ := hor
        have hm' : Hid _ := hm
        have b2 : ((r : Int) == 0) = false := by simp; have q := hpos (by decide); omega
        clear hor hm hpos hsm
        go_wp2_with fail
        refine hnx.mono ?_
        rintro e w' ⟨rfl, hrd2, k2⟩
        go_wp2_with fail
        all_goals (refine bodyPost_ret (v := .tuple #[.int .u64 (n : Int), .bool true, .int .i64 0]) (by first | (simp [results, Tryz.results118, go_sem]; done) | (have q := hor2; unfold Hid at q; simp at q; simp [results, Tryz.results118, go_sem, q]; done) | (have q := hor2; unfold Hid at q; simp [results, Tryz.results118, go_sem]; simpa using q)) rfl ⟨rfl, ?_, hkept.trans k2⟩)
        all_goals (have q := hl2'; unfold Hid at q; rw [← q]; exact hrd2)
      · have hor2 : Hid _ := hor
        have hm' : Hid _ := hm
        have b2 : ((r : Int) == 0) = false := by simp; have q := hpos (by decide); omega
        clear hor hm hpos hsm
        go_wp2_with fail
        refine hnx.mono ?_
        rintro e w' ⟨rfl, hrd2, k2⟩
        go_wp2_with fail
        all_goals (refine bodyPost_ret (v := .tuple #[.int .u64 (n : Int), .bool true, .int .i64 0]) (by first | (simp [results, Tryz.results118, go_sem]; done) | (have q := hor2; unfold Hid at q; simp at q; simp [results, Tryz.results118, go_sem, q]; done) | (have q := hor2; unfold Hid at q; simp [results, Tryz.results118, go_sem]; simpa using q)) rfl ⟨rfl, ?_, hkept.trans k2⟩)
        all_goals (have q := hl2'; unfold Hid at q; rw [← q]; exact hrd2)
      · have hor2 : Hid _ := hor
        have hm' : Hid _ := hm
        have b2 : ((r : Int) == 0) = false := by simp; have q := hpos (by decide); omega
        clear hor hm hpos hsm
        go_wp2_with fail
        refine hnx.mono ?_
        rintro e w' ⟨rfl, hrd2, k2⟩
        go_wp2_with fail
        all_goals (refine bodyPost_ret (v := .tuple #[.int .u64 (n : Int), .bool true, .int .i64 0]) (by first | (simp [results, Tryz.results118, go_sem]; done) | (have q := hor2; unfold Hid at q; simp at q; simp [results, Tryz.results118, go_sem, q]; done) | (have q := hor2; unfold Hid at q; simp [results, Tryz.results118, go_sem]; simpa using q)) rfl ⟨rfl, ?_, hkept.trans k2⟩)
        all_goals (have q := hl2'; unfold Hid at q; rw [← q]; exact hrd2)
      · have hor2 : Hid _ := hor
        have hm' : Hid _ := hm
        have b2 : ((r : Int) == 0) = false := by simp; have q := hpos (by decide); omega
        clear hor hm hpos hsm
        go_wp2_with fail
        refine hnx.mono ?_
        rintro e w' ⟨rfl, hrd2, k2⟩
        go_wp2_with fail
        all_goals (refine bodyPost_ret (v := .tuple #[.int .u64 (n : Int), .bool true, .int .i64 0]) (by first | (simp [results, Tryz.results118, go_sem]; done) | (have q := hor2; unfold Hid at q; simp at q; simp [results, Tryz.results118, go_sem, q]; done) | (have q := hor2; unfold Hid at q; simp [results, Tryz.results118, go_sem]; simpa using q)) rfl ⟨rfl, ?_, hkept.trans k2⟩)
        all_goals (have q := hl2'; unfold Hid at q; rw [← q]; exact hrd2)
      · have hor2 : Hid _ := hor
        have hm' : Hid _ := hm
        have b2 : ((r : Int) == 0) = false := by simp; have q := hpos (by decide); omega
        clear hor hm hpos hsm
        go_wp2_with fail
        refine hnx.mono ?_
        rintro e w' ⟨rfl, hrd2, k2⟩
        go_wp2_with fail
        all_goals (refine bodyPost_ret (v := .tuple #[.int .u64 (n : Int), .bool true, .int .i64 0]) (by first | (simp [results, Tryz.results118, go_sem]; done) | (have q := hor2; unfold Hid at q; simp at q; simp [results, Tryz.results118, go_sem, q]; done) | (have q := hor2; unfold Hid at q; simp [results, Tryz.results118, go_sem]; simpa using q)) rfl ⟨rfl, ?_, hkept.trans k2⟩)
        all_goals (have q := hl2'; unfold Hid at q; rw [← q]; exact hrd2)
      · have hor2 : Hid _ := hor
        have hm' : Hid _ := hm
        have b2 : ((r : Int) == 0) = false := by simp; have q := hpos (by decide); omega
        clear hor hm hpos hsm
        go_wp2_with fail
        refine hnx.mono ?_
        rintro e w' ⟨rfl, hrd2, k2⟩
        go_wp2_with fail
        all_goals (refine bodyPost_ret (v := .tuple #[.int .u64 (n : Int), .bool true, .int .i64 0]) (by first | (simp [results, Tryz.results118, go_sem]; done) | (have q := hor2; unfold Hid at q; simp at q; simp [results, Tryz.results118, go_sem, q]; done) | (have q := hor2; unfold Hid at q; simp [results, Tryz.results118, go_sem]; simpa using q)) rfl ⟨rfl, ?_, hkept.trans k2⟩)
        all_goals (have q := hl2'; unfold Hid at q; rw [← q]; exact hrd2)
      · have hor2 : Hid _ := hor
        have hm' : Hid _ := hm
        have b2 : ((r : Int) == 0) = false := by simp; have q := hpos (by decide); omega
        have b3 : decide (1 < (r : Int)) = false := by simp; have q := hsm rfl; omega
        clear hor hm hpos hsm
        go_wp2_with fail
        refine hnx.mono ?_
        rintro e w' ⟨rfl, hrd2, k2⟩
        go_wp2_with fail
        all_goals (refine bodyPost_ret (v := .tuple #[.int .u64 (n : Int), .bool true, .int .i64 0]) (by first | (simp [results, Tryz.results118, go_sem]; done) | (have q := hor2; unfold Hid at q; simp at q; simp [results, Tryz.results118, go_sem, q]; done) | (have q := hor2; unfold Hid at q; simp [results, Tryz.results118, go_sem]; simpa using q)) rfl ⟨rfl, ?_, hkept.trans k2⟩)
        all_goals (have q := hl2'; unfold Hid at q; rw [← q]; exact hrd2)
end Go.Proofs.YtballmombklalaaGreat
