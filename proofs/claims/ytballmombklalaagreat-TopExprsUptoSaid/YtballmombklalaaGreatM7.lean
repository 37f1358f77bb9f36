/- bin: numbers and texts as bytes. -/
import Derived.Test.YtballmombklalaaGreatM6
import Derived.Lib.Varint
import Derived.Lib.Zigzag
import Derived.Lib.VarintMem
import Derived.Lib.AppendStr
namespace Go.Proofs.YtballmombklalaaGreat
open Go.RowKit

def encB (c : UInt8) : List Value := [.int .u8 (c.toNat : Int)]
theorem encB_len (x : UInt8) : (encB x).length = 1 := rfl
theorem encB_one : ∀ x, ∀ u ∈ encB x, u.oneCell' = true := by simp [encB, Value.oneCell']

/-- v is a row of things that the call has made, and the call has kept what there was. -/
structure New {α : Type} (enc : α → List Value) (sz : Nat) (T : TypeId) (w0 w : World) (v : Value) (L : List α) : Prop where
  row : Row enc sz T w v L
  own : ∀ j, v.ownBlock = some j → w0.heap.size ≤ j
  kept : Kept (fun _ => False) w0 w
section
variable {α : Type} {enc : α → List Value} {sz : Nat} {T : TypeId} {w0 w W w2 : World} {v v' : Value} {L L' : List α}
theorem New.app (h : New enc sz T w0 w v L) (k : Kept (fun _ => False) w W)
    (hh : Row enc sz T w2 v' L' ∧ Kept (fun j => v.ownBlock = some j) W w2 ∧ (∀ j, v'.ownBlock = some j → v.ownBlock = some j ∨ W.heap.size ≤ j)) : New enc sz T w0 w2 v' L' :=
  ⟨hh.1, fun j hj => by
    rcases hh.2.2 j hj with q | q
    · exact h.own j q
    · exact Nat.le_trans (h.kept.trans k).size q,
   (h.kept.trans k).trans' hh.2.1 (fun _ _ q => q) (fun i hi q => absurd (h.own i q) (by omega))⟩
theorem New.same (h : New enc sz T w0 w v L) (k : Kept (fun _ => False) w W) : New enc sz T w0 W v L := ⟨h.row.same k, h.own, h.kept.trans k⟩
theorem New.shape (h : New enc sz T w0 w v L) : ∃ A c, v = .slice A L.length c ∧ L.length ≤ c ∧ c ≤ maxLen := h.row.shape
theorem New.mk0 (w : World) : New enc sz T w (w.alloc (.cells #[] T)) (.slice (some ⟨w.heap.size, 0, none⟩) 0 0) ([] : List α) :=
  ⟨Row.new w, fun j hj => by injection hj with hj; simp only at hj; omega, (Kept.refl _ w).alloc _⟩
theorem New.from (h : New enc sz T w w2 v L) (k : Kept (fun _ => False) w0 w) : New enc sz T w0 w2 v L := ⟨h.row, fun j hj => Nat.le_trans k.size (h.own j hj), k.trans h.kept⟩
end

theorem wpList_run2 {P : Program} {w w' : World} {v u v' : Value} {ops : Array Oper} {rest : List Oper} {o : Oper} {a : Act} {Q : Exit → Act → World → Prop} (hgd : o.guard = none) (s x : Operand) (t t2 : TypeId)
    (ho : o.op = .call { callee := .builtin .append, args := #[s, x], argTypes := #[t, t2] }) (hs : a.eval s = v) (hx : a.eval x = u)
    (hrun : Hid ((Builtin.append_ #[t, t2] o.type #[v, u]).run P w = .ok v' w')) (h : wpList P ops Q rest (a.put o.dst v') w') : wpList P ops Q (o :: rest) a w := by
  refine wpList_plain hgd fun K hK => ?_
  unfold Hid at hrun
  unfold Oper.wp execOp
  simp only [ho, resolve, invoke, builtin, Sem.run_bind, Sem.run_pure, Result.andThen_ok, List.map_toArray, List.map_cons, List.map_nil, hs, hx, hrun]
  exact hK _ _ h

theorem owns_from {w : World} {B : Nat} {T : TypeId} {sz n : Nat} {v : Value} {xs : List Value} (h : w.ownsRow 0 T sz v n xs) (ho : ∀ j, v.ownBlock = some j → B ≤ j) : w.ownsRow B T sz v n xs := by
  obtain ⟨h1, h2⟩ := h
  refine ⟨h1, ?_⟩
  rcases h2 with h2 | ⟨g, cap, cur, rfl, _, r⟩
  · exact .inl h2
  · exact .inr ⟨g, cap, cur, rfl, ho g rfl, r⟩
theorem owns_zero {w : World} {B : Nat} {T : TypeId} {sz n : Nat} {v : Value} {xs : List Value} (h : w.ownsRow B T sz v n xs) : w.ownsRow 0 T sz v n xs ∧ (∀ j, v.ownBlock = some j → B ≤ j) := by
  obtain ⟨h1, h2⟩ := h
  rcases h2 with ⟨rfl, h2⟩ | ⟨g, cap, cur, rfl, hb, r⟩
  · exact ⟨⟨h1, .inl ⟨rfl, h2⟩⟩, fun j hj => by cases hj⟩
  · exact ⟨⟨h1, .inr ⟨g, cap, cur, rfl, Nat.zero_le _, r⟩⟩, fun j hj => by injection hj with hj; subst hj; exact hb⟩
theorem str_cells (s : List UInt8) : Lib.strCells ⟨⟨s⟩⟩ = cellsOf encB s := by
  unfold Lib.strCells cellsOf encB
  rw [← List.map_eq_flatMap]
/-- A text's bytes are appended to a new row of bytes. -/
theorem New.str {P : Program} {w0 w : World} {T : TypeId} {v : Value} {L : List UInt8} (t u ty : TypeId) (ht : P.underlying t = some (.slice T)) (hu : P.underlying u = some .string)
    (hi : (P.info? T).map (fun i => (i.zero, i.size, i.bytes)) = some (some (.int .u8 0), 1, 1)) (h : New encB 1 T w0 w v L) (s : List UInt8) (hb : L.length + s.length ≤ 140737488355328) :
    ∃ A' c' w', Hid ((Builtin.append_ #[t, u] ty #[v, .string ⟨⟨s⟩⟩]).run P w = .ok (.slice A' (L.length + s.length) c') w') ∧ Hid (New encB 1 T w0 w' (.slice A' (L.length + s.length) c') (L ++ s)) := by
  obtain ⟨i0, hi1, hi2, hi3, hi4⟩ := info_parts hi
  have hsz : (⟨⟨s⟩⟩ : ByteArray).size = s.length := rfl
  obtain ⟨v', w2, hrun, hr1, hr2, _⟩ := Lib.run_append_own_string (P := P) w w0.heap.size t u ty T i0 ht hu hi1 hi2 hi3 hi4 _ _ _ (owns_from h.row h.own) ⟨⟨s⟩⟩ (by rw [hsz]; simp only [maxLen]; omega) (by rw [hsz]; exact hb) h.kept.size
  rw [hsz, str_cells, ← cells_app] at hr1
  obtain ⟨hr3, hr4⟩ := owns_zero hr1
  have hrow : Row encB 1 T w2 v' (L ++ s) := by unfold Row; rw [List.length_append]; exact hr3
  obtain ⟨A', c', hv', _, _⟩ := hrow.shape
  rw [List.length_append] at hv'
  subst hv'
  exact ⟨A', c', w2, hrun, hrow, hr4, h.kept.grown hr2 (fun k hk hlt => absurd (h.own k hk) (by omega))⟩

set_option maxRecDepth 100000 in
theorem groups_any (x : Int) (w : World) (h : 0 ≤ x ∧ x < 18446744073709551616) :
    Calls Tryz.prog 55 #[.int .u64 x] w fun e w' => ∃ v, e = .returned v ∧ New encB 1 5 w w' v (Lib.uvarint x.toNat) := by
  obtain ⟨n, rfl⟩ := Int.eq_ofNat_of_zero_le h.1
  have hn : n < 18446744073709551616 := by omega
  clear h
  rw [Int.toNat_natCast]
  generalize hU : Lib.uvarint n = U
  have hUl : U.length ≤ 10 := by rw [← hU]; exact Lib.uvarint_length64 hn
  go_enter Tryz.func55, Tryz.ntmps55
  go_wp2_with fail
  go_loopg [0, 3] (n + 1) (fun k xv ov wr => ∃ (r : Nat) (pre : List UInt8), r < k ∧ xv = .int .u64 r ∧ r < 18446744073709551616 ∧ pre ++ Lib.uvarint r = U ∧ New encB 1 5 w wr ov pre)
  case atStart => exact ⟨n, [], by omega, rfl, hn, hU, New.mk0 w⟩
  case round =>
    obtain ⟨r, pre, hk, rfl, hr, hpre, hnew⟩ := hrel
    obtain ⟨A, cp, rfl, _, _⟩ := hnew.shape
    have hpl : pre.length + (Lib.uvarint r).length ≤ 10 := by rw [← List.length_append, hpre]; exact hUl
    have hup := Lib.uvarint_pos r
    by_cases h128 : 128 ≤ r
    · have hb : decide ((128 : Int) ≤ (r : Int)) = true := by simp; omega
      rw [Lib.uvarint_big h128] at hpre
      have eb : ((r % 128 + 128).toUInt8.toNat : Int) = (r : Int) % 128 + 128 := by
        rw [Lib.toUInt8_toNat (by omega)]; omega
      have e1 : bits .or .u8 ((r : Int) % 256) 128 = (((r % 128 + 128).toUInt8.toNat : Nat) : Int) := by
        rw [eb, Lib.u8_or128_any _ (by omega) (by omega)]; omega
      have hpre2 : Hid ((pre ++ [(r % 128 + 128).toUInt8]) ++ Lib.uvarint (r / 128) = U) := by unfold Hid; rw [List.append_assoc]; exact hpre
      generalize (r % 128 + 128).toUInt8 = c at *
      have hn2 := hnew.same ((Kept.refl _ wr).alloc (.cells #[.int .u8 (c.toNat : Int)] 5))
      obtain ⟨A', c', w2, hrun, hh⟩ := app_one (P := Tryz.prog) (enc := encB) (sz := 1) 34 34 (.int .u8 0) 1 Tryz.underlying34 (by kernel_rfl) rfl (by decide) encB_len encB_one hn2.row c wr.heap.size 1 (heap_alloc_new wr _) (by simp [maxLen]; omega) (by omega)
      have hnew2 : Hid (New encB 1 5 w w2 (.slice A' (pre.length + 1) c') (pre ++ [c])) := hn2.app (Kept.refl _ _) hh
      clear hn2 hh hnew hpre eb hUl hU
      have tok := True.intro
      go_wp2_with (at_builtin; have _t := tok; refine wpList_run rfl _ _ _ rfl rfl rfl hrun ?_; clear tok)
      go_roundg (r / 128 + 1)
      case measure => omega
      case rel => exact ⟨r / 128, _, by omega, int_eq (by omega), by omega, hpre2, hnew2⟩
    · have hb : decide ((128 : Int) ≤ (r : Int)) = false := by simp; omega
      rw [Lib.uvarint_small (by omega)] at hpre
      have eb : (encB r.toUInt8).toArray = #[.int .u8 (r : Int)] := by
        unfold encB; rw [Lib.toUInt8_toNat (by omega)]
      subst hpre
      have hn2 := hnew.same ((Kept.refl _ wr).alloc (.cells #[.int .u8 (r : Int)] 5))
      obtain ⟨A', c', w2, hrun, hh⟩ := app_one (P := Tryz.prog) (enc := encB) (sz := 1) 34 34 (.int .u8 0) 1 Tryz.underlying34 (by kernel_rfl) rfl (by decide) encB_len encB_one hn2.row r.toUInt8 wr.heap.size 1 (by rw [eb]; exact heap_alloc_new wr _) (by simp [maxLen]; omega) (by omega)
      have hnew2 : Hid (New encB 1 5 w w2 (.slice A' (pre.length + 1) c') (pre ++ [r.toUInt8])) := hn2.app (Kept.refl _ _) hh
      clear hn2 hh hnew hUl hU eb
      have tok := True.intro
      go_wp2_with (at_builtin; have _t := tok; refine wpList_run rfl _ _ _ rfl rfl rfl hrun ?_; clear tok)
      go_ret
      exact ⟨_, rfl, hnew2⟩

theorem num_any (x : Int) (w : World) (h : 0 ≤ x ∧ x < 9223372036854775808) :
    Calls Tryz.prog 56 #[.int .i64 x] w fun e w' => ∃ v, e = .returned v ∧ New encB 1 5 w w' v (Lib.uvarint x.toNat) := by
  have hg := groups_any x w ⟨h.1, by omega⟩
  have e1 : IntKind.u64.wrap x = x := by rw [IntKind.wrap_u64]; omega
  obtain ⟨h1, h2⟩ := h
  generalize Lib.uvarint x.toNat = U at *
  go_enter Tryz.func56, Tryz.ntmps56
  go_wp2_with fail
  refine hg.mono ?_
  rintro e w' ⟨v, rfl, hn⟩
  go_wp2_with fail
  go_ret
  exact ⟨v, rfl, hn⟩

/-- A number without a sign for one with it. -/
def zig (x : Int) : Nat := Lib.zigzag x
theorem zig_bits (x : Int) (h : I64 x) : bits .xor .u64 (IntKind.u64.wrap (IntKind.u64.wrap x * 2)) (IntKind.u64.wrap (x / 9223372036854775808)) = (zig x : Int) := by
  obtain ⟨h1, h2⟩ := h
  by_cases h0 : 0 ≤ x
  · have ez : (zig x : Int) = x * 2 := Lib.zigzag_nonneg h0
    have e1 : IntKind.u64.wrap (IntKind.u64.wrap x * 2) = ((x * 2).toNat : Nat) := by rw [IntKind.wrap_u64, IntKind.wrap_u64]; omega
    have e2 : IntKind.u64.wrap (x / 9223372036854775808) = ((0 : Nat) : Int) := by rw [IntKind.wrap_u64]; omega
    rw [e1, e2, bits_xor_u64_nat _ _ (by omega) (by decide), Nat.xor_zero, ez]
    omega
  · have ez := Lib.zigzag_neg h1 (by omega)
    have e2 : IntKind.u64.wrap (x / 9223372036854775808) = IntKind.u64.max := by
      rw [IntKind.wrap_u64]
      have : IntKind.u64.max = 18446744073709551615 := by decide
      rw [this]
      omega
    rw [e2]
    show _ = ((Lib.zigzag x : Nat) : Int)
    rw [← ez]
    have e3 : IntKind.u64.wrap (IntKind.u64.wrap x * 2) = (((2 * x + 18446744073709551616).toNat : Nat) : Int) := by rw [IntKind.wrap_u64, IntKind.wrap_u64]; omega
    have e4 : IntKind.u64.max = ((2 ^ 64 - 1 : Nat) : Int) := by decide
    rw [e3, e4, bits_xor_u64_nat _ _ (by omega) (by decide), bits_xor_u64_nat _ _ (by decide) (by omega), Nat.xor_comm]
set_option maxRecDepth 100000 in
theorem int_any (x : Int) (w : World) (h : I64 x) :
    Calls Tryz.prog 23 #[.int .i64 x] w fun e w' => ∃ v, e = .returned v ∧ New encB 1 5 w w' v (Lib.uvarint (zig x)) := by
  have hz := Lib.zigzag_lt h.1 h.2
  have hg := groups_any (zig x : Int) w ⟨by omega, by unfold zig; omega⟩
  rw [Int.toNat_natCast] at hg
  have hb := zig_bits x h
  obtain ⟨h1, h2⟩ := h
  generalize Lib.uvarint (zig x) = U at *
  have hb2 : Hid _ := hb
  clear hz hb
  go_enter Tryz.func23, Tryz.ntmps23
  go_wp2_with fail
  rw [show bits .xor .u64 (IntKind.u64.wrap (IntKind.u64.wrap x * 2)) (IntKind.u64.wrap (x / 9223372036854775808)) = (zig x : Int) from hb2]
  refine hg.mono ?_
  rintro e w' ⟨v, rfl, hn⟩
  go_wp2_with fail
  go_ret
  exact ⟨v, rfl, hn⟩

/-- A text's bytes. -/
def textB (s : List UInt8) : List UInt8 := Lib.uvarint s.length ++ s
set_option maxRecDepth 100000 in
theorem text_any (s : List UInt8) (w : World) (h : s.length ≤ 1048576) :
    Calls Tryz.prog 24 #[.string ⟨⟨s⟩⟩] w fun e w' => ∃ v, e = .returned v ∧ New encB 1 5 w w' v (textB s) := by
  have hg := num_any (s.length : Int) w ⟨by omega, by omega⟩
  rw [Int.toNat_natCast] at hg
  have hUl : (Lib.uvarint s.length).length ≤ 10 := Lib.uvarint_length64 (by omega)
  unfold textB
  generalize Lib.uvarint s.length = U at *
  go_enter Tryz.func24, Tryz.ntmps24
  go_wp2_with fail
  refine hg.mono ?_
  rintro e w' ⟨v, rfl, hn⟩
  obtain ⟨A, cp, rfl, _, _⟩ := hn.shape
  obtain ⟨A', c', w2, hrun, hn2⟩ := hn.str (P := Tryz.prog) 34 9 34 Tryz.underlying34 Tryz.underlying9 (by kernel_rfl) s (by omega)
  clear hn
  go_wp2_with (at_builtin; refine wpList_run2 rfl _ _ _ _ rfl rfl rfl hrun ?_)
  go_ret
  exact ⟨_, rfl, hn2⟩
end Go.Proofs.YtballmombklalaaGreat

/- expr.Bytes: an expression's bytes. -/
namespace Go.Proofs.YtballmombklalaaGreat
open Go.RowKit

section
variable {P : Program} {w0 w W : World} {T : TypeId} {v : Value} {L M : List UInt8}
/-- A byte, which lies in block B, is appended to a new row of bytes. -/
theorem New.pushB (t ty : TypeId) (ht : P.underlying t = some (.slice T)) (hi : (P.info? T).map (fun i => (i.zero, i.size, i.bytes)) = some (some (.int .u8 0), 1, 1)) (h : New encB 1 T w0 w v L) (k : Kept (fun _ => False) w W)
    (B cp : Nat) {T' : TypeId} {f : Nat × Nat} {n : Int} (hB : W.heap[B]? = some (.cells #[.int .u8 n] T' f)) (c : UInt8) (hc : (c.toNat : Int) = n) (hb : L.length + 1 ≤ 140737488355328) :
    ∃ A' c' w', Hid ((Builtin.append_ #[t, t] ty #[v, .slice (some ⟨B, 0, none⟩) 1 cp]).run P W = .ok (.slice A' (L.length + 1) c') w') ∧ Hid (New encB 1 T w0 w' (.slice A' (L.length + 1) c') (L ++ [c])) ∧ Hid (Kept (fun j => v.ownBlock = some j) W w') := by
  obtain ⟨A', c', w2, hrun, hh⟩ := app_one (P := P) (enc := encB) (sz := 1) t ty (.int .u8 0) 1 ht hi rfl (by decide) encB_len encB_one (h.row.same k) c B cp (T' := T') (f := f) (by subst hc; exact hB) (by simp only [maxLen]; omega) (by omega)
  exact ⟨A', c', w2, hrun, h.app k hh, hh.2.1⟩
theorem Row.src0 {α : Type} {enc : α → List Value} {sz : Nat} {M : List α} (h : ∀ x, (enc x).length = sz) (hr : Row enc sz T w v M) : ∃ A c, v = .slice A M.length c ∧ (A = none → M = [] ∧ c = 0) ∧ Src enc sz w (fun _ => False) A M := by
  obtain ⟨A, c, hv, _, _, hs⟩ := hr.src h (fun _ => False) (fun _ _ q => q)
  refine ⟨A, c, hv, ?_, hs⟩
  rintro rfl
  rcases hr.2 with ⟨e, hz⟩ | ⟨b, cap, cur, e, _⟩
  · rw [hv] at e
    injection e with _ _ e
    exact ⟨List.eq_nil_of_length_eq_zero hz, e⟩
  · rw [hv] at e
    injection e with e
    cases e
/-- Other bytes are appended to a new row of bytes. -/
theorem New.catB (t ty : TypeId) (ht : P.underlying t = some (.slice T)) (hi : (P.info? T).map (fun i => (i.zero, i.size, i.bytes)) = some (some (.int .u8 0), 1, 1)) (h : New encB 1 T w0 w v L) (k : Kept (fun _ => False) w W)
    {u : Value} (hu : Row encB 1 T W u M) (hb : L.length + M.length ≤ 140737488355328) :
    ∃ A2 c2 A' c' w', u = .slice A2 M.length c2 ∧ Hid ((Builtin.append_ #[t, t] ty #[v, .slice A2 M.length c2]).run P W = .ok (.slice A' (L.length + M.length) c') w') ∧ Hid (New encB 1 T w0 w' (.slice A' (L.length + M.length) c') (L ++ M)) ∧ Hid (Kept (fun j => v.ownBlock = some j) W w') := by
  obtain ⟨A2, c2, hv, hA, hs⟩ := hu.src0 encB_len
  obtain ⟨A', c', w2, hrun, h1, h2, h3⟩ := app_src (P := P) (enc := encB) (sz := 1) (M := M) (N := fun _ => False) t ty (.int .u8 0) 1 ht hi rfl (by decide) encB_len encB_one (h.row.same k) A2 c2 hA hs (by simp only [maxLen]; omega) (by omega)
  rw [List.length_append] at h1
  exact ⟨A2, c2, A', c', w2, hv, hrun, h.app k ⟨h1, h2, h3⟩, h2⟩
theorem New.lit1 (w : World) {n : Int} (c : UInt8) (hc : (c.toNat : Int) = n) : New encB 1 T w (w.alloc (.cells #[.int .u8 n] T)) (.slice (some ⟨w.heap.size, 0, none⟩) 1 1) [c] := by
  subst hc
  exact ⟨World.ownsRow_lit (e := T) (size := 1) (base := 0) w #[.int .u8 (c.toNat : Int)] 1 (Nat.zero_le _) (by simp [maxLen]) (by simp), fun j hj => by injection hj with hj; simp only at hj; omega, (Kept.refl _ w).alloc _⟩
end

/-- A word's bytes. -/
def wordBytes (o : Wd) : List UInt8 := o.c.toNat.toUInt8 :: (if o.c = 1 then Lib.uvarint (zig o.n) else if o.c = 2 then textB o.t else if o.c = 3 then [o.n.toNat.toUInt8] else [])
/-- An expression's bytes. -/
def exprBytes (x : List Wd) : List UInt8 := x.length.toUInt8 :: x.flatMap wordBytes

theorem hi_all : ∀ (x : List Wd) (h : Int) (r : Int), hiF x h = some r → ∀ o ∈ x, wdB o = true
  | [], _, _, _, o, ho => by cases ho
  | a :: x, h, r, hr, o, ho => by
    rw [hiF] at hr
    split at hr
    · rename_i hc
      rcases List.mem_cons.1 ho with rfl | ho
      · exact hc.1
      · exact hi_all x _ _ hr o ho
    · cases hr
theorem form_all {x : List Wd} (h : formI x = 0) : x.length ≤ 64 ∧ hiF x 0 = some 1 ∧ (∀ o ∈ x, wdB o = true) := by
  unfold formI at h
  split at h
  · omega
  · split at h
    · rename_i h1 h2
      exact ⟨by omega, h2, hi_all x 0 1 h2⟩
    · omega
theorem wd_bd {o : Wd} (h : wdB o = true) : 1 ≤ o.c ∧ o.c ≤ 20 ∧ (o.c = 2 → o.t.length ≤ 64) ∧ (o.c = 3 → 0 ≤ o.n ∧ o.n < 8) := by
  have ht := wd_takes h
  have hc : 1 ≤ o.c ∧ o.c ≤ 20 := by
    unfold takesI at ht
    (repeat' split at ht) <;> omega
  refine ⟨hc.1, hc.2, ?_, ?_⟩
  · intro e
    unfold wdB at h
    rw [if_neg (by omega), if_pos e] at h
    simp at h
    exact h.2
  · intro e
    unfold wdB at h
    rw [if_neg (by omega), if_neg (by omega), if_pos e] at h
    simp at h
    omega
theorem wordBytes_len {o : Wd} (h : wdB o = true) (hn : I64 o.n) : (wordBytes o).length ≤ 100 := by
  obtain ⟨_, _, h2, _⟩ := wd_bd h
  unfold wordBytes
  split
  · have := Lib.uvarint_length64 (Lib.zigzag_lt hn.1 hn.2)
    simp only [List.length_cons]
    unfold zig
    omega
  · split
    · rename_i e
      have := h2 e
      have := Lib.uvarint_length64 (x := o.t.length) (by omega)
      simp only [List.length_cons, textB, List.length_append]
      omega
    · split <;> simp
theorem wordsBytes_len : ∀ (x : List Wd), (∀ o ∈ x, wdB o = true ∧ I64 o.n) → (x.flatMap wordBytes).length ≤ x.length * 100
  | [], _ => by simp
  | a :: x, h => by
    have h1 := wordBytes_len (h a (by simp)).1 (h a (by simp)).2
    have h2 := wordsBytes_len x (fun o ho => h o (by simp [ho]))
    rw [List.flatMap_cons, List.length_append, List.length_cons]
    omega

set_option maxRecDepth 100000 in
set_option maxHeartbeats 1000000 in
theorem bytes_any (L : List Wd) (A : Option Addr) (cap : Nat) (w : World) (h : Src encW 3 w (fun _ => False) A L) (hf : formI L = 0) (hn : ∀ o ∈ L, I64 o.n) :
    Calls Tryz.prog 8 #[.slice A L.length cap] w fun e w' => ∃ v, e = .returned v ∧ New encB 1 5 w w' v (exprBytes L) := by
  obtain ⟨h64, _, hall⟩ := form_all hf
  have hform := form_any L A cap w h (by simp only [maxLen]; omega)
  rw [hf] at hform
  clear hf
  have hE : exprBytes L = L.length.toUInt8 :: L.flatMap wordBytes := rfl
  generalize exprBytes L = E at *
  go_enter Tryz.func8, Tryz.ntmps8
  go_wp2_with fail
  refine hform.mono ?_
  rintro e w1 ⟨rfl, k1⟩
  go_wp2_with fail
  go_loopg [3, 15] L.length (fun k ov iv wr => ∃ (n : Nat) (pre : List UInt8), n + k = L.length ∧ iv = .int .i64 n ∧ pre.length ≤ n * 100 + 1 ∧ pre ++ (L.drop n).flatMap wordBytes = E ∧ New encB 1 5 w wr ov pre)
  case atStart => exact ⟨0, [L.length.toUInt8], by omega, rfl, by simp, by rw [hE]; rfl, (New.lit1 w1 _ (by rw [Lib.toUInt8_toNat (by omega)])).from k1⟩
  case round =>
    obtain ⟨n, pre, hk, rfl, hpl, hpre, hnew⟩ := hrel
    obtain ⟨A0, cp, rfl, _, _⟩ := hnew.shape
    by_cases hlt : n < L.length
    · obtain ⟨o, ho⟩ : ∃ o, L[n]? = some o := ⟨L[n], List.getElem?_eq_getElem hlt⟩
      have hmem : o ∈ L := List.mem_of_getElem? ho
      have hdr : L.drop n = o :: L.drop (n + 1) := by
        rw [List.drop_eq_getElem_cons hlt]
        congr 1
        rw [List.getElem?_eq_getElem hlt] at ho
        injection ho
      rw [hdr, List.flatMap_cons, ← List.append_assoc] at hpre
      obtain ⟨b, off, hA, _, x0, x1, x2⟩ := (h.same hnew.kept).cells3 ho
      subst hA
      have hwb := hall o hmem
      have hwl := wordBytes_len hwb (hn o hmem)
      obtain ⟨b1, b2, b3, b4⟩ := wd_bd hwb
      have hi64 := hn o hmem
      obtain ⟨oc, on, ot⟩ := o
      unfold wordBytes at hpre hwl
      simp only at x0 x1 x2 b1 b2 b3 b4 hi64 hpre hwl
      have hcb : (oc.toNat.toUInt8.toNat : Int) = oc := by rw [Lib.toUInt8_toNat (by omega)]; omega
      have hown := hnew.row.lt
      have ka : Kept (fun _ => False) wr ((wr.alloc (.cells #[.int .i64 oc, .int .i64 on, .string ⟨⟨ot⟩⟩] 62)).alloc (.cells #[.int .u8 oc] 5)) := ((Kept.refl _ wr).alloc _).alloc _
      have hB2 := heap_alloc_new (wr.alloc (.cells #[.int .i64 oc, .int .i64 on, .string ⟨⟨ot⟩⟩] 62)) (.cells #[.int .u8 oc] 5)
      rw [World.size_alloc] at hB2
      obtain ⟨A1, c1, w2, hrun, hn1, hk1⟩ := hnew.pushB (P := Tryz.prog) 34 34 Tryz.underlying34 (by kernel_rfl) ka (wr.heap.size + 1) 1 hB2 oc.toNat.toUInt8 hcb (by omega)
      have hc1 : ∀ i, w2.cell? ⟨wr.heap.size, i, none⟩ = #[.int .i64 oc, .int .i64 on, .string ⟨⟨ot⟩⟩][i]? := fun i => by
        have hh : w2.heap[wr.heap.size]? = some (.cells #[.int .i64 oc, .int .i64 on, .string ⟨⟨ot⟩⟩] 62 (0, 0)) := Kept.heap hk1 (Kept.heap ((Kept.refl (fun _ => False) _).alloc _) (heap_alloc_new wr _) (fun q => q)) (fun q => by have := hown _ q; omega)
        exact cell_of_row w2 _ i _ _ _ hh
      have y0 := hc1 0
      have y1 := hc1 1
      have y2 := hc1 2
      simp only [List.getElem?_toArray, List.getElem?_cons_zero, List.getElem?_cons_succ] at y0 y1 y2
      clear hc1 hB2 ka hown hnew hdr ho hE hform
      have hE2 : Hid ((pre ++ (oc.toNat.toUInt8 :: (if oc = 1 then Lib.uvarint (zig on) else if oc = 2 then textB ot else if oc = 3 then [on.toNat.toUInt8] else []))) ++ (L.drop (n + 1)).flatMap wordBytes = E) := hpre
      have hcb' : Hid ((oc.toNat.toUInt8.toNat : Int) = oc) := hcb
      clear hpre hcb hwb hmem
      by_cases h1 : oc = 1
      · subst h1
        rw [if_pos rfl] at hE2 hwl
        have tok := True.intro
        go_wp2_with (at_builtin; have _t := tok; refine wpList_run rfl _ _ _ rfl rfl rfl hrun ?_; clear tok)
        refine (int_any on w2 hi64).mono ?_
        rintro e w3 ⟨u, rfl, hu⟩
        obtain ⟨A2, c2, A3, c3, w4, rfl, hrun2, hn2, _⟩ := New.catB (P := Tryz.prog) 34 34 Tryz.underlying34 (by kernel_rfl) (show New encB 1 5 w w2 _ _ from hn1) hu.kept hu.row (by simp only [List.length_append, List.length_cons, List.length_nil]; simp only [List.length_cons] at hwl; omega)
        rw [List.length_append, List.length_singleton] at hrun2 hn2
        clear hu
        have tok := True.intro
        go_wp2_with (at_builtin; have _t := tok; refine wpList_run rfl _ _ _ rfl rfl rfl hrun2 ?_; clear tok)
        go_roundg (gk - 1)
        case measure => omega
        case rel => exact ⟨n + 1, _, by omega, int_eq (by omega), by simp only [List.length_append, List.length_cons, List.length_nil] at hwl ⊢; try omega, by have q := hE2; unfold Hid at q; rw [← q]; simp, hn2⟩
      · have g1 : (oc == 1) = false := by simpa using h1
        rw [if_neg h1] at hE2 hwl
        by_cases h2 : oc = 2
        · subst h2
          rw [if_pos rfl] at hE2 hwl
          have hol := b3 rfl
          have tok := True.intro
          go_wp2_with (at_builtin; have _t := tok; refine wpList_run rfl _ _ _ rfl rfl rfl hrun ?_; clear tok)
          refine (text_any ot w2 (by omega)).mono ?_
          rintro e w3 ⟨u, rfl, hu⟩
          obtain ⟨A2, c2, A3, c3, w4, rfl, hrun2, hn2, _⟩ := New.catB (P := Tryz.prog) 34 34 Tryz.underlying34 (by kernel_rfl) (show New encB 1 5 w w2 _ _ from hn1) hu.kept hu.row (by simp only [List.length_append, List.length_cons, List.length_nil]; simp only [List.length_cons] at hwl; omega)
          rw [List.length_append, List.length_singleton] at hrun2 hn2
          clear hu
          have tok := True.intro
          go_wp2_with (at_builtin; have _t := tok; refine wpList_run rfl _ _ _ rfl rfl rfl hrun2 ?_; clear tok)
          go_roundg (gk - 1)
          case measure => omega
          case rel => exact ⟨n + 1, _, by omega, int_eq (by omega), by simp only [List.length_append, List.length_cons, List.length_nil] at hwl ⊢; try omega, by have q := hE2; unfold Hid at q; rw [← q]; simp, hn2⟩
        · have g2 : (oc == 2) = false := by simpa using h2
          rw [if_neg h2] at hE2 hwl
          by_cases h3 : oc = 3
          · subst h3
            rw [if_pos rfl] at hE2 hwl
            obtain ⟨n1, n2⟩ := b4 rfl
            have hB3 := heap_alloc_new w2 (.cells #[.int .u8 on] 5)
            obtain ⟨A3, c3, w4, hrun2, hn2, _⟩ := New.pushB (P := Tryz.prog) 34 34 Tryz.underlying34 (by kernel_rfl) (show New encB 1 5 w w2 _ _ from hn1) ((Kept.refl _ w2).alloc _) w2.heap.size 1 hB3 on.toNat.toUInt8 (by rw [Lib.toUInt8_toNat (by omega)]; omega) (by simp only [List.length_append, List.length_cons, List.length_nil]; omega)
            rw [List.length_append, List.length_singleton] at hrun2 hn2
            clear hB3
            have tok := True.intro
            have tok2 := True.intro
            go_wp2_with (first | (at_builtin; have _t := tok; refine wpList_run rfl _ _ _ rfl rfl rfl hrun ?_; clear tok) | (at_builtin; have _t := tok2; refine wpList_run rfl _ _ _ rfl rfl rfl hrun2 ?_; clear tok2))
            go_roundg (gk - 1)
            case measure => omega
            case rel => exact ⟨n + 1, _, by omega, int_eq (by omega), by simp only [List.length_append, List.length_cons, List.length_nil] at hwl ⊢; try omega, by have q := hE2; unfold Hid at q; rw [← q]; simp, hn2⟩
          · have g3 : (oc == 3) = false := by simpa using h3
            rw [if_neg h3] at hE2 hwl
            have tok := True.intro
            go_wp2_with (at_builtin; have _t := tok; refine wpList_run rfl _ _ _ rfl rfl rfl hrun ?_; clear tok)
            go_roundg (gk - 1)
            case measure => omega
            case rel => exact ⟨n + 1, _, by omega, int_eq (by omega), by simp only [List.length_append, List.length_cons, List.length_nil] at hwl ⊢; try omega, by have q := hE2; unfold Hid at q; rw [← q], hn1⟩
    · have e : n = L.length := by omega
      subst e
      rw [List.drop_length, List.flatMap_nil, List.append_nil] at hpre
      subst hpre
      go_wp2_with fail
      go_ret
      exact ⟨_, rfl, hnew⟩
end Go.Proofs.YtballmombklalaaGreat
