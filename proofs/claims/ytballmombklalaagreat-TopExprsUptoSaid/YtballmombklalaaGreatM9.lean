/- bin.Reader: numbers and texts. -/
import Derived.Test.YtballmombklalaaGreatM8
import Derived.Laws.BytesArg
import Derived.Shelf.Bytes.SlSmallAll
import Derived.Laws.IdiomStrings
namespace Go.Proofs.YtballmombklalaaGreat
open Go.RowKit

theorem read64_any (w : World) (p : Nat) (B : List UInt8) (i m n : Nat) (rest : List UInt8) (h : RD w p B i) (hn : n < 18446744073709551616) (hB : B.drop i = Lib.uvarint n ++ rest) (hm : (Lib.uvarint n).length ≤ m) (hm10 : m ≤ 10) :
    Calls Tryz.prog 92 #[.pointer (some ⟨p, 0, none⟩), .int .i64 m] w fun e w' =>
      e = .returned (.int .u64 n) ∧ RD w' p B (i + (Lib.uvarint n).length) ∧ Kept (fun k => k = p) w w' := by
  have hg := gather_any w p B i m n rest h hn hB hm hm10
  clear hm hB
  go_enter Tryz.func92, Tryz.ntmps92
  go_wp2_with fail
  refine hg.mono ?_
  rintro e w' ⟨rfl, k1, k2⟩
  go_wp2_with fail
  go_ret
  exact ⟨rfl, k1, k2⟩

theorem uv_lt9 {n : Nat} (h : n < 9223372036854775808) : (Lib.uvarint n).length ≤ 9 := Lib.uvarint_length 8 n (by omega)

theorem rnum_any (w : World) (p : Nat) (B : List UInt8) (i n : Nat) (rest : List UInt8) (h : RD w p B i) (hn : n < 9223372036854775808) (hB : B.drop i = Lib.uvarint n ++ rest) :
    Calls Tryz.prog 93 #[.pointer (some ⟨p, 0, none⟩)] w fun e w' =>
      e = .returned (.int .i64 n) ∧ RD w' p B (i + (Lib.uvarint n).length) ∧ Kept (fun k => k = p) w w' := by
  have hg := read64_any w p B i 9 n rest h (by omega) hB (uv_lt9 hn) (by omega)
  have e1 : IntKind.i64.wrap (n : Int) = n := IntWalk.i64_in _ (by omega)
  clear hB
  go_enter Tryz.func93, Tryz.ntmps93
  go_wp2_with fail
  refine hg.mono ?_
  rintro e w' ⟨rfl, k1, k2⟩
  go_wp2_with fail
  go_ret
  exact ⟨ret_int (by first | rfl | exact e1), k1, k2⟩

theorem xor_comm_i64 (a b : Int) : bits .xor .i64 a b = bits .xor .i64 b a := by
  show IntKind.i64.wrap ((BitVec.ofInt 64 a ^^^ BitVec.ofInt 64 b).toNat : Int) = IntKind.i64.wrap ((BitVec.ofInt 64 b ^^^ BitVec.ofInt 64 a).toNat : Int)
  rw [BitVec.xor_comm]
theorem xor_zero_i64 (a : Int) (h : I64 a) : bits .xor .i64 a 0 = a := by
  show IntKind.i64.wrap ((BitVec.ofInt 64 a ^^^ BitVec.ofInt 64 0).toNat : Int) = a
  have : BitVec.ofInt 64 0 = 0#64 := rfl
  rw [this, BitVec.xor_zero, BitVec.toNat_ofInt, IntKind.wrap_i64]
  unfold I64 at h
  omega

theorem rint_any (w : World) (p : Nat) (B : List UInt8) (i : Nat) (v : Int) (rest : List UInt8) (h : RD w p B i) (hv : I64 v) (hB : B.drop i = Lib.uvarint (zig v) ++ rest) :
    Calls Tryz.prog 52 #[.pointer (some ⟨p, 0, none⟩)] w fun e w' =>
      e = .returned (.int .i64 v) ∧ RD w' p B (i + (Lib.uvarint (zig v)).length) ∧ Kept (fun k => k = p) w w' := by
  have hz : zig v < 18446744073709551616 := Lib.zigzag_lt hv.1 hv.2
  have hg := read64_any w p B i 10 (zig v) rest h hz hB (Lib.uvarint_length64 hz) (by omega)
  have hx : bits .xor .i64 ((zig v : Int) / 2) (wrap64 (-(wrap64 (bits .and .u64 (zig v : Int) 1)))) = v := by
    rw [Lib.u64_and1 _ (by omega) (by omega)]
    unfold I64 at hv
    by_cases h0 : 0 ≤ v
    · have ez : (zig v : Int) = v * 2 := Lib.zigzag_nonneg h0
      have a1 : (zig v : Int) / 2 = v := by rw [ez]; omega
      have a2 : wrap64 (-(wrap64 ((zig v : Int) % 2))) = 0 := by rw [ez]; simp only [wrap64]; omega
      rw [a1, a2, xor_zero_i64 _ hv]
    · have ez : (zig v : Int) = -2 * v - 1 := by
        unfold zig Lib.zigzag
        rw [if_neg h0]
        omega
      have a1 : (zig v : Int) / 2 = (((-v - 1).toNat : Nat) : Int) := by rw [ez]; omega
      have a2 : wrap64 (-(wrap64 ((zig v : Int) % 2))) = -1 := by rw [ez]; simp only [wrap64]; omega
      rw [a1, a2, xor_comm_i64, Lib.i64_not _ (by omega)]
      omega
  generalize zig v = z at *
  have hx2 : Hid _ := hx
  clear hB hx
  go_enter Tryz.func52, Tryz.ntmps52
  go_wp2_with fail
  refine hg.mono ?_
  rintro e w' ⟨rfl, k1, k2⟩
  go_wp2_with fail
  go_ret
  exact ⟨ret_int hx2, k1, k2⟩

theorem conv_bytes {w : World} {b off : Nat} {cap : Nat} (s : List UInt8) (hc : ∀ j x, s[j]? = some x → w.cell? ⟨b, off + j, none⟩ = some (.int .u8 (x.toNat : Int))) :
    (convert 34 9 (.slice (some ⟨b, off, none⟩) s.length cap)).run Tryz.prog w = .ok (.string ⟨⟨s⟩⟩) w := by
  refine run_convert_bytes_back (P := Tryz.prog) w 34 9 5 ⟨b, off, none⟩ cap s Tryz.underlying34 Tryz.underlying5 Tryz.underlying9 (fun j hj => ?_)
  rw [addr_add]
  exact hc j _ (List.getElem?_eq_getElem hj)

set_option maxRecDepth 100000 in
theorem rtext_any (w : World) (p : Nat) (B : List UInt8) (i : Nat) (s rest : List UInt8) (h : RD w p B i) (hs : s.length ≤ 64) (hB : B.drop i = textB s ++ rest) :
    Calls Tryz.prog 53 #[.pointer (some ⟨p, 0, none⟩), .int .i64 64] w fun e w' =>
      e = .returned (.string ⟨⟨s⟩⟩) ∧ RD w' p B (i + (textB s).length) ∧ Kept (fun k => k = p) w w' := by
  unfold textB at hB ⊢
  rw [List.append_assoc] at hB
  have hg := rnum_any w p B i s.length (s ++ rest) h (by omega) hB
  have hB2 : B.drop (i + (Lib.uvarint s.length).length) = s ++ rest := by
    rw [← List.drop_drop, hB, List.drop_left]
  have hBl : B.length = i + (Lib.uvarint s.length).length + (s.length + rest.length) := by
    have h1 := congrArg List.length hB2
    have h2 := h.le
    have h3 := congrArg List.length hB
    rw [List.length_drop, List.length_append] at h1
    rw [List.length_drop, List.length_append, List.length_append] at h3
    have := Lib.uvarint_pos s.length
    omega
  have hsm := h.small
  rw [List.length_append, ← Nat.add_assoc]
  generalize i + (Lib.uvarint s.length).length = q at *
  clear hB
  go_enter Tryz.func53, Tryz.ntmps53
  go_wp2_with fail
  refine hg.mono ?_
  rintro e w1 ⟨rfl, h1, k1⟩
  have he := fun wx hw => err_any wx p B q hw
  have hl := rleft_any w1 p B q h1
  have b1 : decide ((64 : Int) < (s.length : Int)) = false := by simp; omega
  have b2 : decide ((B.length : Int) - (q : Int) < (s.length : Int)) = false := by simp; omega
  go_wp2_with fail
  refine (he w1 h1).mono ?_
  rintro e w2 ⟨rfl, rfl⟩
  go_wp2_with fail
  refine hl.mono ?_
  rintro e w3 ⟨rfl, k3⟩
  have h3 := h1.same k3
  obtain ⟨A, c, _, hr, c0, c1, c2, f1, _, hnp⟩ := h3.open
  obtain ⟨h4, k4⟩ := h3.set (j := q + s.length) (by omega)
  have e1 : ((q + s.length : Nat) : Int) = (q : Int) + (s.length : Int) := by omega
  rw [e1] at h4 k4
  have hq : q + s.length ≤ B.length := by omega
  obtain ⟨A2, cc, hv, hlc, _, hsr⟩ := hr.src encB_len (fun k => k = p) (fun j hj e => by subst e; exact hnp hj)
  injection hv with hv1 hv2 hv3
  subst hv1 hv3
  have hRD : Hid (RD (w3.setCell ⟨p, 1, none⟩ (.int .i64 ((q : Int) + (s.length : Int)))) p B (q + s.length)) := h4
  have hK : Hid (Kept (fun k => k = p) w (w3.setCell ⟨p, 1, none⟩ (.int .i64 ((q : Int) + (s.length : Int))))) := (k1.trans (k3.mono (fun _ _ q => q.elim))).trans k4
  have hwi : IntKind.i64.wrap (q : Int) = q := IntWalk.i64_in _ (by omega)
  have hq0 : (q : Int) ≤ (B.length : Int) := by omega
  have hqc : (q : Int) + (s.length : Int) ≤ (c : Int) := by omega
  cases hs0 : s with
  | nil =>
    have hconv : ∀ (a : Option Addr) (c n : Nat), (convert 34 9 (.slice a 0 c)).run Tryz.prog ((w3.setCell ⟨p, 1, none⟩ (.int .i64 (q : Int))).drewN n) = .ok (.string ⟨#[]⟩) ((w3.setCell ⟨p, 1, none⟩ (.int .i64 (q : Int))).drewN n) := fun a c n => run_convert_bytes_zero (P := Tryz.prog) _ 34 5 Tryz.underlying34 Tryz.underlying5 a c 9 Tryz.underlying9
    subst hs0
    clear hBl hsr hr h4 k4 h3 h1 k1 k3 hB2 he hl
    simp only [List.length_nil, Nat.add_zero, Int.ofNat_zero, Int.natCast_zero, Int.add_zero] at *
    go_wp2_with fail
    go_quiet (fail)
    go_wp2_with fail
    all_goals (go_ret; exact ⟨rfl, hRD.same (drew_kept _ _), Kept.trans hK ((Kept.refl _ _).drewN _)⟩)
  | cons x s' =>
    have hx : B[q]? = some x := by
      have := congrArg (fun l => l[0]?) hB2
      rw [hs0] at this
      simpa using this
    obtain ⟨b, off, rfl, hbp, _⟩ := hsr q x hx
    have hcells : ∀ j y, s[j]? = some y → w3.cell? ⟨b, off + q + j, none⟩ = some (.int .u8 (y.toNat : Int)) := by
      intro j y hy
      have hy2 : B[q + j]? = some y := by
        rw [← List.getElem?_drop, hB2, List.getElem?_append_left (List.getElem?_eq_some_iff.1 hy).1]
        exact hy
      obtain ⟨b2, off2, e, _, hc⟩ := hsr (q + j) y hy2
      injection e with e
      injection e with e1 e2
      subst e1 e2
      have := hc 0 _ rfl
      rw [Nat.mul_one, Nat.add_zero, ← Nat.add_assoc] at this
      exact this
    have hconv : ∀ (cap n : Nat), (convert 34 9 (.slice (some ⟨b, off + q, none⟩) s.length cap)).run Tryz.prog ((w3.setCell ⟨p, 1, none⟩ (.int .i64 ((q : Int) + (s.length : Int)))).drewN n) = .ok (.string ⟨⟨s⟩⟩) ((w3.setCell ⟨p, 1, none⟩ (.int .i64 ((q : Int) + (s.length : Int)))).drewN n) := fun cap n => conv_bytes s (fun j y hy => by
      refine ((Kept.refl (fun k => k = p) w3).setCell (p := ⟨p, 1, none⟩) (fun _ => rfl) _ |>.drewN n).cell (hcells j y hy) hbp)
    rw [← hs0]
    have hsl : 0 < s.length := by rw [hs0]; simp
    clear hs0 hBl hsr hr h4 k4 h3 h1 k1 k3 hB2 he hl hcells hx
    go_wp2_with fail
    go_quiet (fail)
    go_wp2_with fail
    go_ret
    exact ⟨rfl, hRD.same (drew_kept _ _), Kept.trans hK ((Kept.refl _ _).drewN _)⟩
end Go.Proofs.YtballmombklalaaGreat
