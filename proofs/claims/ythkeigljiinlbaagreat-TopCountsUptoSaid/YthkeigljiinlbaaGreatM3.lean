/- Picked out of the text G of TopExprs. -/
import Derived.Test.YthkeigljiinlbaaGreatM2
import Derived.Lib.Varint
import Derived.Lib.Zigzag
import Derived.Lib.VarintMem
import Derived.Lib.AppendStr
namespace Go.Proofs.YthkeigljiinlbaaGreat
open Go.RowKit

section
variable {P : Program} {α : Type} {enc : α → List Value} {sz : Nat} {w : World} {L M : List α} {T : TypeId} {v : Value}
/-- An append of one thing, which lies in block B: as the walk reads it. -/
theorem app_one (t ty : TypeId) (z : Value) (bytes : Nat) (ht : P.underlying t = some (.slice T)) (hi : (P.info? T).map (fun i => (i.zero, i.size, i.bytes)) = some (some z, sz, bytes)) (hzs : z.cells.size = sz) (hsz : 0 < sz)
    (hlen : ∀ x, (enc x).length = sz) (hone : ∀ x, ∀ u ∈ enc x, u.oneCell' = true) (hrow : Row enc sz T w v L) (x : α) (B c : Nat) {T' : TypeId} {f : Nat × Nat} (hB : w.heap[B]? = some (.cells (enc x).toArray T' f))
    (h63 : L.length + 1 ≤ maxLen) (hb : (L.length + 1) * bytes ≤ 140737488355328) :
    ∃ A' c' w', Hid ((Builtin.append_ #[t, t] ty #[v, .slice (some ⟨B, 0, none⟩) 1 c]).run P w = .ok (.slice A' (L.length + 1) c') w') ∧
      Hid (Row enc sz T w' (.slice A' (L.length + 1) c') (L ++ [x]) ∧ Kept (fun j => v.ownBlock = some j) w w' ∧ (∀ j, (Value.slice A' (L.length + 1) c').ownBlock = some j → v.ownBlock = some j ∨ w.heap.size ≤ j)) := by
  obtain ⟨A', c', w', h1, h2, h3, h4⟩ := app_src (P := P) (M := [x]) (N := fun _ => False) t ty z bytes ht hi hzs hsz hlen hone hrow (some ⟨B, 0, none⟩) c (by simp) (Src.one hB (fun q => q)) h63 hb
  rw [List.length_append] at h2
  exact ⟨A', c', w', h1, h2, h3, h4⟩
end

/-- An append whose run is known, at the walk. -/
theorem wpList_run {P : Program} {w w' : World} {v u v' : Value} {ops : Array Oper} {rest : List Oper} {o : Oper} {a : Act} {Q : Exit → Act → World → Prop} (hgd : o.guard = none) (s x : Operand) (t : TypeId)
    (ho : o.op = .call { callee := .builtin .append, args := #[s, x], argTypes := #[t, t] }) (hs : a.eval s = v) (hx : a.eval x = u)
    (hrun : Hid ((Builtin.append_ #[t, t] o.type #[v, u]).run P w = .ok v' w')) (h : wpList P ops Q rest (a.put o.dst v') w') : wpList P ops Q (o :: rest) a w := by
  refine wpList_plain hgd fun K hK => ?_
  unfold Hid at hrun
  unfold Oper.wp execOp
  simp only [ho, resolve, invoke, builtin, Sem.run_bind, Sem.run_pure, Result.andThen_ok, List.map_toArray, List.map_cons, List.map_nil, hs, hx, hrun]
  exact hK _ _ h
end Go.Proofs.YthkeigljiinlbaaGreat

/- Picked out of the text H of TopExprs. -/
namespace Go.Proofs.YthkeigljiinlbaaGreat
open Go.RowKit

structure Wd where
  c : Int
  n : Int
  t : List UInt8
deriving DecidableEq
def encW (x : Wd) : List Value := [.int .i64 x.c, .int .i64 x.n, .string ⟨⟨x.t⟩⟩]
theorem encW_len (x : Wd) : (encW x).length = 3 := rfl
def aggW (x : Wd) : Value := .agg #[.int .i64 x.c, .int .i64 x.n, .string ⟨⟨x.t⟩⟩]

theorem Src.cells3 {w : World} {N : Nat → Prop} {A : Option Addr} {L : List Wd} (h : Src encW 3 w N A L) {i : Nat} {o : Wd} (hi : L[i]? = some o) :
    ∃ b off, A = some ⟨b, off, none⟩ ∧ ¬ N b ∧ w.cell? ⟨b, off + i * 3, none⟩ = some (.int .i64 o.c) ∧ w.cell? ⟨b, off + i * 3 + 1, none⟩ = some (.int .i64 o.n) ∧ w.cell? ⟨b, off + i * 3 + 2, none⟩ = some (.string ⟨⟨o.t⟩⟩) := by
  obtain ⟨b, off, e, hb, hc⟩ := h i o hi
  exact ⟨b, off, e, hb, hc 0 _ rfl, hc 1 _ rfl, hc 2 _ rfl⟩

end Go.Proofs.YthkeigljiinlbaaGreat

/- Picked out of the text I of TopExprs. -/
namespace Go.Proofs.YthkeigljiinlbaaGreat
open Go.RowKit

def encB (c : UInt8) : List Value := [.int .u8 (c.toNat : Int)]
theorem encB_len (x : UInt8) : (encB x).length = 1 := rfl
theorem encB_one : ∀ x, ∀ u ∈ encB x, u.oneCell' = true := by simp [encB, Value.oneCell']

/-- v is a row of things that the call has made, and the call has kept what there was. -/
structure New {α : Type} (enc : α → List Value) (sz : Nat) (T : TypeId) (w0 w : World) (v : Value) (L : List α) : Prop where
  row : Row enc sz T w v L
  own : ∀ j, v.ownBlock = some j → w0.heap.size ≤ j
  kept : Kept (fun _ => False) w0 w
section
variable {α : Type} {enc : α → List Value} {sz : Nat} {T : TypeId} {w0 w W w2 : World} {v v' : Value} {L L' : List α}
theorem New.app (h : New enc sz T w0 w v L) (k : Kept (fun _ => False) w W)
    (hh : Row enc sz T w2 v' L' ∧ Kept (fun j => v.ownBlock = some j) W w2 ∧ (∀ j, v'.ownBlock = some j → v.ownBlock = some j ∨ W.heap.size ≤ j)) : New enc sz T w0 w2 v' L' :=
  ⟨hh.1, fun j hj => by
    rcases hh.2.2 j hj with q | q
    · exact h.own j q
    · exact Nat.le_trans (h.kept.trans k).size q,
   (h.kept.trans k).trans' hh.2.1 (fun _ _ q => q) (fun i hi q => absurd (h.own i q) (by omega))⟩
theorem New.same (h : New enc sz T w0 w v L) (k : Kept (fun _ => False) w W) : New enc sz T w0 W v L := ⟨h.row.same k, h.own, h.kept.trans k⟩
theorem New.shape (h : New enc sz T w0 w v L) : ∃ A c, v = .slice A L.length c ∧ L.length ≤ c ∧ c ≤ maxLen := h.row.shape
theorem New.mk0 (w : World) : New enc sz T w (w.alloc (.cells #[] T)) (.slice (some ⟨w.heap.size, 0, none⟩) 0 0) ([] : List α) :=
  ⟨Row.new w, fun j hj => by injection hj with hj; simp only at hj; omega, (Kept.refl _ w).alloc _⟩
theorem New.from (h : New enc sz T w w2 v L) (k : Kept (fun _ => False) w0 w) : New enc sz T w0 w2 v L := ⟨h.row, fun j hj => Nat.le_trans k.size (h.own j hj), k.trans h.kept⟩
end

theorem wpList_run2 {P : Program} {w w' : World} {v u v' : Value} {ops : Array Oper} {rest : List Oper} {o : Oper} {a : Act} {Q : Exit → Act → World → Prop} (hgd : o.guard = none) (s x : Operand) (t t2 : TypeId)
    (ho : o.op = .call { callee := .builtin .append, args := #[s, x], argTypes := #[t, t2] }) (hs : a.eval s = v) (hx : a.eval x = u)
    (hrun : Hid ((Builtin.append_ #[t, t2] o.type #[v, u]).run P w = .ok v' w')) (h : wpList P ops Q rest (a.put o.dst v') w') : wpList P ops Q (o :: rest) a w := by
  refine wpList_plain hgd fun K hK => ?_
  unfold Hid at hrun
  unfold Oper.wp execOp
  simp only [ho, resolve, invoke, builtin, Sem.run_bind, Sem.run_pure, Result.andThen_ok, List.map_toArray, List.map_cons, List.map_nil, hs, hx, hrun]
  exact hK _ _ h

theorem owns_from {w : World} {B : Nat} {T : TypeId} {sz n : Nat} {v : Value} {xs : List Value} (h : w.ownsRow 0 T sz v n xs) (ho : ∀ j, v.ownBlock = some j → B ≤ j) : w.ownsRow B T sz v n xs := by
  obtain ⟨h1, h2⟩ := h
  refine ⟨h1, ?_⟩
  rcases h2 with h2 | ⟨g, cap, cur, rfl, _, r⟩
  · exact .inl h2
  · exact .inr ⟨g, cap, cur, rfl, ho g rfl, r⟩
theorem owns_zero {w : World} {B : Nat} {T : TypeId} {sz n : Nat} {v : Value} {xs : List Value} (h : w.ownsRow B T sz v n xs) : w.ownsRow 0 T sz v n xs ∧ (∀ j, v.ownBlock = some j → B ≤ j) := by
  obtain ⟨h1, h2⟩ := h
  rcases h2 with ⟨rfl, h2⟩ | ⟨g, cap, cur, rfl, hb, r⟩
  · exact ⟨⟨h1, .inl ⟨rfl, h2⟩⟩, fun j hj => by cases hj⟩
  · exact ⟨⟨h1, .inr ⟨g, cap, cur, rfl, Nat.zero_le _, r⟩⟩, fun j hj => by injection hj with hj; subst hj; exact hb⟩
theorem str_cells (s : List UInt8) : Lib.strCells ⟨⟨s⟩⟩ = cellsOf encB s := by
  unfold Lib.strCells cellsOf encB
  rw [← List.map_eq_flatMap]
/-- A text's bytes are appended to a new row of bytes. -/
theorem New.str {P : Program} {w0 w : World} {T : TypeId} {v : Value} {L : List UInt8} (t u ty : TypeId) (ht : P.underlying t = some (.slice T)) (hu : P.underlying u = some .string)
    (hi : (P.info? T).map (fun i => (i.zero, i.size, i.bytes)) = some (some (.int .u8 0), 1, 1)) (h : New encB 1 T w0 w v L) (s : List UInt8) (hb : L.length + s.length ≤ 140737488355328) :
    ∃ A' c' w', Hid ((Builtin.append_ #[t, u] ty #[v, .string ⟨⟨s⟩⟩]).run P w = .ok (.slice A' (L.length + s.length) c') w') ∧ Hid (New encB 1 T w0 w' (.slice A' (L.length + s.length) c') (L ++ s)) := by
  obtain ⟨i0, hi1, hi2, hi3, hi4⟩ := info_parts hi
  have hsz : (⟨⟨s⟩⟩ : ByteArray).size = s.length := rfl
  obtain ⟨v', w2, hrun, hr1, hr2, _⟩ := Lib.run_append_own_string (P := P) w w0.heap.size t u ty T i0 ht hu hi1 hi2 hi3 hi4 _ _ _ (owns_from h.row h.own) ⟨⟨s⟩⟩ (by rw [hsz]; simp only [maxLen]; omega) (by rw [hsz]; exact hb) h.kept.size
  rw [hsz, str_cells, ← cells_app] at hr1
  obtain ⟨hr3, hr4⟩ := owns_zero hr1
  have hrow : Row encB 1 T w2 v' (L ++ s) := by unfold Row; rw [List.length_append]; exact hr3
  obtain ⟨A', c', hv', _, _⟩ := hrow.shape
  rw [List.length_append] at hv'
  subst hv'
  exact ⟨A', c', w2, hrun, hrow, hr4, h.kept.grown hr2 (fun k hk hlt => absurd (h.own k hk) (by omega))⟩

set_option maxRecDepth 100000 in
theorem groups_any (x : Int) (w : World) (h : 0 ≤ x ∧ x < 18446744073709551616) :
    Calls Tryz.prog 199 #[.int .u64 x] w fun e w' => ∃ v, e = .returned v ∧ New encB 1 5 w w' v (Lib.uvarint x.toNat) := by
  obtain ⟨n, rfl⟩ := Int.eq_ofNat_of_zero_le h.1
  have hn : n < 18446744073709551616 := by omega
  clear h
  rw [Int.toNat_natCast]
  generalize hU : Lib.uvarint n = U
  have hUl : U.length ≤ 10 := by rw [← hU]; exact Lib.uvarint_length64 hn
  go_enter Tryz.func199, Tryz.ntmps199
  go_wp2_with fail
  go_loopg [0, 3] (n + 1) (fun k xv ov wr => ∃ (r : Nat) (pre : List UInt8), r < k ∧ xv = .int .u64 r ∧ r < 18446744073709551616 ∧ pre ++ Lib.uvarint r = U ∧ New encB 1 5 w wr ov pre)
  case atStart => exact ⟨n, [], by omega, rfl, hn, hU, New.mk0 w⟩
  case round =>
    obtain ⟨r, pre, hk, rfl, hr, hpre, hnew⟩ := hrel
    obtain ⟨A, cp, rfl, _, _⟩ := hnew.shape
    have hpl : pre.length + (Lib.uvarint r).length ≤ 10 := by rw [← List.length_append, hpre]; exact hUl
    have hup := Lib.uvarint_pos r
    by_cases h128 : 128 ≤ r
    · have hb : decide ((128 : Int) ≤ (r : Int)) = true := by simp; omega
      rw [Lib.uvarint_big h128] at hpre
      have eb : ((r % 128 + 128).toUInt8.toNat : Int) = (r : Int) % 128 + 128 := by
        rw [Lib.toUInt8_toNat (by omega)]; omega
      have e1 : bits .or .u8 ((r : Int) % 256) 128 = (((r % 128 + 128).toUInt8.toNat : Nat) : Int) := by
        rw [eb, Lib.u8_or128_any _ (by omega) (by omega)]; omega
      have hpre2 : Hid ((pre ++ [(r % 128 + 128).toUInt8]) ++ Lib.uvarint (r / 128) = U) := by unfold Hid; rw [List.append_assoc]; exact hpre
      generalize (r % 128 + 128).toUInt8 = c at *
      have hn2 := hnew.same ((Kept.refl _ wr).alloc (.cells #[.int .u8 (c.toNat : Int)] 5))
      obtain ⟨A', c', w2, hrun, hh⟩ := app_one (P := Tryz.prog) (enc := encB) (sz := 1) 136 136 (.int .u8 0) 1 Tryz.underlying136 (by kernel_rfl) rfl (by decide) encB_len encB_one hn2.row c wr.heap.size 1 (heap_alloc_new wr _) (by simp [maxLen]; omega) (by omega)
      have hnew2 : Hid (New encB 1 5 w w2 (.slice A' (pre.length + 1) c') (pre ++ [c])) := hn2.app (Kept.refl _ _) hh
      clear hn2 hh hnew hpre eb hUl hU
      have tok := True.intro
      go_wp2_with (at_builtin; have _t := tok; refine wpList_run rfl _ _ _ rfl rfl rfl hrun ?_; clear tok)
      go_roundg (r / 128 + 1)
      case measure => omega
      case rel => exact ⟨r / 128, _, by omega, int_eq (by omega), by omega, hpre2, hnew2⟩
    · have hb : decide ((128 : Int) ≤ (r : Int)) = false := by simp; omega
      rw [Lib.uvarint_small (by omega)] at hpre
      have eb : (encB r.toUInt8).toArray = #[.int .u8 (r : Int)] := by
        unfold encB; rw [Lib.toUInt8_toNat (by omega)]
      subst hpre
      have hn2 := hnew.same ((Kept.refl _ wr).alloc (.cells #[.int .u8 (r : Int)] 5))
      obtain ⟨A', c', w2, hrun, hh⟩ := app_one (P := Tryz.prog) (enc := encB) (sz := 1) 136 136 (.int .u8 0) 1 Tryz.underlying136 (by kernel_rfl) rfl (by decide) encB_len encB_one hn2.row r.toUInt8 wr.heap.size 1 (by rw [eb]; exact heap_alloc_new wr _) (by simp [maxLen]; omega) (by omega)
      have hnew2 : Hid (New encB 1 5 w w2 (.slice A' (pre.length + 1) c') (pre ++ [r.toUInt8])) := hn2.app (Kept.refl _ _) hh
      clear hn2 hh hnew hUl hU eb
      have tok := True.intro
      go_wp2_with (at_builtin; have _t := tok; refine wpList_run rfl _ _ _ rfl rfl rfl hrun ?_; clear tok)
      go_ret
      exact ⟨_, rfl, hnew2⟩

theorem num_any (x : Int) (w : World) (h : 0 ≤ x ∧ x < 9223372036854775808) :
    Calls Tryz.prog 203 #[.int .i64 x] w fun e w' => ∃ v, e = .returned v ∧ New encB 1 5 w w' v (Lib.uvarint x.toNat) := by
  have hg := groups_any x w ⟨h.1, by omega⟩
  have e1 : IntKind.u64.wrap x = x := by rw [IntKind.wrap_u64]; omega
  obtain ⟨h1, h2⟩ := h
  generalize Lib.uvarint x.toNat = U at *
  go_enter Tryz.func203, Tryz.ntmps203
  go_wp2_with fail
  refine hg.mono ?_
  rintro e w' ⟨v, rfl, hn⟩
  go_wp2_with fail
  go_ret
  exact ⟨v, rfl, hn⟩

/-- A number without a sign for one with it. -/
def zig (x : Int) : Nat := Lib.zigzag x
theorem zig_bits (x : Int) (h : I64 x) : bits .xor .u64 (IntKind.u64.wrap (IntKind.u64.wrap x * 2)) (IntKind.u64.wrap (x / 9223372036854775808)) = (zig x : Int) := by
  obtain ⟨h1, h2⟩ := h
  by_cases h0 : 0 ≤ x
  · have ez : (zig x : Int) = x * 2 := Lib.zigzag_nonneg h0
    have e1 : IntKind.u64.wrap (IntKind.u64.wrap x * 2) = ((x * 2).toNat : Nat) := by rw [IntKind.wrap_u64, IntKind.wrap_u64]; omega
    have e2 : IntKind.u64.wrap (x / 9223372036854775808) = ((0 : Nat) : Int) := by rw [IntKind.wrap_u64]; omega
    rw [e1, e2, bits_xor_u64_nat _ _ (by omega) (by decide), Nat.xor_zero, ez]
    omega
  · have ez := Lib.zigzag_neg h1 (by omega)
    have e2 : IntKind.u64.wrap (x / 9223372036854775808) = IntKind.u64.max := by
      rw [IntKind.wrap_u64]
      have : IntKind.u64.max = 18446744073709551615 := by decide
      rw [this]
      omega
    rw [e2]
    show _ = ((Lib.zigzag x : Nat) : Int)
    rw [← ez]
    have e3 : IntKind.u64.wrap (IntKind.u64.wrap x * 2) = (((2 * x + 18446744073709551616).toNat : Nat) : Int) := by rw [IntKind.wrap_u64, IntKind.wrap_u64]; omega
    have e4 : IntKind.u64.max = ((2 ^ 64 - 1 : Nat) : Int) := by decide
    rw [e3, e4, bits_xor_u64_nat _ _ (by omega) (by decide), bits_xor_u64_nat _ _ (by decide) (by omega), Nat.xor_comm]
set_option maxRecDepth 100000 in
theorem int_any (x : Int) (w : World) (h : I64 x) :
    Calls Tryz.prog 198 #[.int .i64 x] w fun e w' => ∃ v, e = .returned v ∧ New encB 1 5 w w' v (Lib.uvarint (zig x)) := by
  have hz := Lib.zigzag_lt h.1 h.2
  have hg := groups_any (zig x : Int) w ⟨by omega, by unfold zig; omega⟩
  rw [Int.toNat_natCast] at hg
  have hb := zig_bits x h
  obtain ⟨h1, h2⟩ := h
  generalize Lib.uvarint (zig x) = U at *
  have hb2 : Hid _ := hb
  clear hz hb
  go_enter Tryz.func198, Tryz.ntmps198
  go_wp2_with fail
  rw [show bits .xor .u64 (IntKind.u64.wrap (IntKind.u64.wrap x * 2)) (IntKind.u64.wrap (x / 9223372036854775808)) = (zig x : Int) from hb2]
  refine hg.mono ?_
  rintro e w' ⟨v, rfl, hn⟩
  go_wp2_with fail
  go_ret
  exact ⟨v, rfl, hn⟩

/-- A text's bytes. -/
def textB (s : List UInt8) : List UInt8 := Lib.uvarint s.length ++ s
set_option maxRecDepth 100000 in
theorem text_any (s : List UInt8) (w : World) (h : s.length ≤ 1048576) :
    Calls Tryz.prog 202 #[.string ⟨⟨s⟩⟩] w fun e w' => ∃ v, e = .returned v ∧ New encB 1 5 w w' v (textB s) := by
  have hg := num_any (s.length : Int) w ⟨by omega, by omega⟩
  rw [Int.toNat_natCast] at hg
  have hUl : (Lib.uvarint s.length).length ≤ 10 := Lib.uvarint_length64 (by omega)
  unfold textB
  generalize Lib.uvarint s.length = U at *
  go_enter Tryz.func202, Tryz.ntmps202
  go_wp2_with fail
  refine hg.mono ?_
  rintro e w' ⟨v, rfl, hn⟩
  obtain ⟨A, cp, rfl, _, _⟩ := hn.shape
  obtain ⟨A', c', w2, hrun, hn2⟩ := hn.str (P := Tryz.prog) 136 9 136 Tryz.underlying136 Tryz.underlying9 (by kernel_rfl) s (by omega)
  clear hn
  go_wp2_with (at_builtin; refine wpList_run2 rfl _ _ _ _ rfl rfl rfl hrun ?_)
  go_ret
  exact ⟨_, rfl, hn2⟩
end Go.Proofs.YthkeigljiinlbaaGreat
