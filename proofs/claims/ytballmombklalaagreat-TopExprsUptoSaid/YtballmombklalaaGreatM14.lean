/- Appends of things just written, as laws of the walk; value.Show of a text. -/
import Derived.Test.YtballmombklalaaGreatM13
import Derived.Deep.RegionLaw
import Derived.Laws.BitsLemmas
namespace Go.Proofs.YtballmombklalaaGreat
open Go.RowKit

section
variable {P : Program} {α : Type} {enc : α → List Value} {sz : Nat} {w0 wr W : World} {L M : List α} {T : TypeId} {v : Value}
theorem Src.many {B : Nat} {T' : TypeId} {f : Nat × Nat} {N : Nat → Prop} (hlen : ∀ x, (enc x).length = sz) (h : W.heap[B]? = some (.cells (cellsOf enc M).toArray T' f)) (hn : ¬ N B) : Src enc sz W N (some ⟨B, 0, none⟩) M := by
  intro i x hi
  refine ⟨B, 0, rfl, hn, fun j u hu => ?_⟩
  rw [Nat.zero_add, cell_of_row W B (i * sz + j) _ _ _ h]
  rw [List.getElem?_toArray]
  exact cells_get enc sz hlen M i x j u hi hu
/-- An append of things that lie in a block: its run, and what it yields. -/
theorem New.lit (t ty : TypeId) (z : Value) (bytes : Nat) (ht : P.underlying t = some (.slice T)) (hi : (P.info? T).map (fun i => (i.zero, i.size, i.bytes)) = some (some z, sz, bytes)) (hzs : z.cells.size = sz) (hsz : 0 < sz)
    (hlen : ∀ x, (enc x).length = sz) (hone : ∀ x, ∀ u ∈ enc x, u.oneCell' = true) (h : New enc sz T w0 wr v L) (k : Kept (fun _ => False) wr W) (M : List α) (B c : Nat) {T' : TypeId} {f : Nat × Nat} (hB : W.heap[B]? = some (.cells (cellsOf enc M).toArray T' f))
    (h63 : L.length + M.length ≤ maxLen) (hb : (L.length + M.length) * bytes ≤ 140737488355328) :
    ∃ v' w', Hid ((Builtin.append_ #[t, t] ty #[v, .slice (some ⟨B, 0, none⟩) M.length c]).run P W = .ok v' w') ∧ (∃ A' c', v' = .slice A' (L.length + M.length) c' ∧ New enc sz T w0 w' v' (L ++ M)) := by
  obtain ⟨A', c', w', h1, h2, h3, h4⟩ := app_src (P := P) (M := M) (N := fun _ => False) t ty z bytes ht hi hzs hsz hlen hone (h.same k).row (some ⟨B, 0, none⟩) c (by simp) (Src.many hlen hB (fun q => q)) h63 hb
  rw [List.length_append] at h2
  exact ⟨_, w', h1, A', c', rfl, h.app k ⟨h2, h3, h4⟩⟩
/-- The same for an append of whatever lies somewhere. -/
theorem New.src (t ty : TypeId) (z : Value) (bytes : Nat) (ht : P.underlying t = some (.slice T)) (hi : (P.info? T).map (fun i => (i.zero, i.size, i.bytes)) = some (some z, sz, bytes)) (hzs : z.cells.size = sz) (hsz : 0 < sz)
    (hlen : ∀ x, (enc x).length = sz) (hone : ∀ x, ∀ u ∈ enc x, u.oneCell' = true) (h : New enc sz T w0 wr v L) (k : Kept (fun _ => False) wr W) (M : List α) (A : Option Addr) (c : Nat) (hA : A = none → M = [] ∧ c = 0) (hs : Src enc sz W (fun _ => False) A M)
    (h63 : L.length + M.length ≤ maxLen) (hb : (L.length + M.length) * bytes ≤ 140737488355328) :
    ∃ v' w', Hid ((Builtin.append_ #[t, t] ty #[v, .slice A M.length c]).run P W = .ok v' w') ∧ (∃ A' c', v' = .slice A' (L.length + M.length) c' ∧ New enc sz T w0 w' v' (L ++ M)) := by
  obtain ⟨A', c', w', h1, h2, h3, h4⟩ := app_src (P := P) (M := M) (N := fun _ => False) t ty z bytes ht hi hzs hsz hlen hone (h.same k).row A c hA hs h63 hb
  rw [List.length_append] at h2
  exact ⟨_, w', h1, A', c', rfl, h.app k ⟨h2, h3, h4⟩⟩
end

theorem New.mkL {α : Type} {enc : α → List Value} {sz : Nat} {T : TypeId} (hlen : ∀ x, (enc x).length = sz) (w : World) (M : List α) (hm : M.length ≤ maxLen) (cs : Array Value) (hcs : cs = (cellsOf enc M).toArray) (n : Nat) (hn : n = M.length) :
    New enc sz T w (w.alloc (.cells cs T)) (.slice (some ⟨w.heap.size, 0, none⟩) n n) M := by
  subst hcs hn
  have := World.ownsRow_lit (e := T) (size := sz) (base := 0) w (cellsOf enc M).toArray M.length (Nat.zero_le _) hm (by rw [List.size_toArray, cells_len enc sz hlen])
  exact ⟨this, fun j hj => by injection hj with hj; simp only at hj; omega, (Kept.refl _ w).alloc _⟩

section
variable {P : Program} {W w2 : World} {v u v' : Value} {ops : Array Oper} {rest : List Oper} {o : Oper} {a : Act} {Q : Exit → Act → World → Prop} {K : Act → World → Prop} {E : Prop}
/-- An append whose run is known to be, at the walk: the run comes last. -/
theorem wpList_ex {R : Value → World → Prop} (hgd : o.guard = none) (s x : Operand) (t t2 : TypeId) (ho : o.op = .call { callee := .builtin .append, args := #[s, x], argTypes := #[t, t2] }) (hs : a.eval s = v) (hx : a.eval x = u)
    (hrun : ∃ v' w', Hid ((Builtin.append_ #[t, t2] o.type #[v, u]).run P W = .ok v' w') ∧ R v' w') (h : ∀ v' w', R v' w' → wpList P ops Q rest (a.put o.dst v') w') : wpList P ops Q (o :: rest) a W := by
  obtain ⟨v', w', h1, h2⟩ := hrun
  exact wpList_run2 hgd s x t t2 ho hs hx h1 (h v' w' h2)
theorem step_run2 (hgd : o.guard = none) (s x : Operand) (t t2 : TypeId)
    (ho : o.op = .call { callee := .builtin .append, args := #[s, x], argTypes := #[t, t2] }) (hs : a.eval s = v) (hx : a.eval x = u)
    (hrun : Hid ((Builtin.append_ #[t, t2] o.type #[v, u]).run P W = .ok v' w2)) (h : K (a.put o.dst v') w2) :
    if Region.wanted o (yielded ops a.tmps) = true then Oper.wp P o a W K Q else E := by
  have hw : Region.wanted o (yielded ops a.tmps) = true := by simp [Region.wanted, hgd]
  rw [if_pos hw]
  unfold Hid at hrun
  unfold Oper.wp execOp
  simp only [ho, resolve, invoke, builtin, Sem.run_bind, Sem.run_pure, Result.andThen_ok, List.map_toArray, List.map_cons, List.map_nil, hs, hx, hrun]
  exact h
theorem step_ex {R : Value → World → Prop} (hgd : o.guard = none) (s x : Operand) (t t2 : TypeId) (ho : o.op = .call { callee := .builtin .append, args := #[s, x], argTypes := #[t, t2] }) (hs : a.eval s = v) (hx : a.eval x = u)
    (hrun : ∃ v' w', Hid ((Builtin.append_ #[t, t2] o.type #[v, u]).run P W = .ok v' w') ∧ R v' w') (h : ∀ v' w', R v' w' → K (a.put o.dst v') w') :
    if Region.wanted o (yielded ops a.tmps) = true then Oper.wp P o a W K Q else E := by
  obtain ⟨v', w', h1, h2⟩ := hrun
  exact step_run2 hgd s x t t2 ho hs hx h1 (h v' w' h2)
end

set_option maxRecDepth 100000 in
theorem New.conv {w0 w : World} {A : Option Addr} {n c : Nat} {M : List UInt8} (h : New encB 1 5 w0 w (.slice A n c) M) (hn : n = M.length) :
    (convert 34 9 (.slice A n c)).run Tryz.prog w = .ok (.string ⟨⟨M⟩⟩) w := by
  subst hn
  cases M with
  | nil => exact run_convert_bytes_zero (P := Tryz.prog) w 34 5 Tryz.underlying34 Tryz.underlying5 A c 9 Tryz.underlying9
  | cons x r =>
    obtain ⟨A2, c2, hv, _, _, hs⟩ := h.row.src encB_len (fun _ => False) (fun _ _ q => q)
    injection hv with h1 _ h2
    subst h1 h2
    obtain ⟨b, off, rfl, _, _⟩ := hs 0 x rfl
    refine conv_bytes (x :: r) (fun j y hy => ?_)
    obtain ⟨b2, off2, e, _, hc⟩ := hs j y hy
    injection e with e
    injection e with e1 e2
    subst e1 e2
    have := hc 0 _ rfl
    rw [Nat.mul_one, Nat.add_zero] at this
    exact this

/-- A byte as it is written in a text. -/
def dgU (n : Nat) : UInt8 := (digI n).toNat.toUInt8
def escB (c : UInt8) : List UInt8 := if plainB c = true then [c] else [92, dgU (c.toNat / 16), dgU (c.toNat % 16)]
def quoteS (t : List UInt8) : List UInt8 := 39 :: t.flatMap escB ++ [39]
theorem dgU_toNat {n : Nat} (h : n ≤ 15) : ((dgU n).toNat : Int) = digI n := by
  unfold dgU
  have : 0 ≤ digI n ∧ digI n ≤ 255 := by unfold digI; split <;> omega
  rw [Lib.toUInt8_toNat (by omega)]
  omega
theorem esc_len (c : UInt8) : (escB c).length ≤ 3 := by unfold escB; split <;> simp
theorem esc_lens (t : List UInt8) : (t.flatMap escB).length ≤ 3 * t.length := by
  induction t with
  | nil => simp
  | cons c r ih => rw [List.flatMap_cons, List.length_append, List.length_cons]; have := esc_len c; omega

set_option maxHeartbeats 2000000 in
set_option maxRecDepth 100000 in
theorem wshow_any (t : List UInt8) (w : World) (h : t.length ≤ 1048576) : Calls Tryz.prog 183 #[.string ⟨⟨t⟩⟩] w fun e w' => e = .returned (.string ⟨⟨quoteS t⟩⟩) ∧ Kept (fun _ => False) w w' := by
  obtain ⟨R, hR⟩ : ∃ R, quoteS t = R := ⟨_, rfl⟩
  have HR : Hid _ := Lib.hid hR
  rw [hR]
  clear hR
  go_enter Tryz.func183, Tryz.ntmps183
  go_wp2_with fail
  go_loopg [3, 8] t.length (fun k ov iv wr => ∃ n : Nat, n + k = t.length ∧ iv = .int .i64 n ∧ New encB 1 5 w wr ov (39 :: (t.take n).flatMap escB))
  case atStart => exact ⟨0, by omega, rfl, New.mkL encB_len w [39] (by simp [maxLen]) _ rfl 1 rfl⟩
  case round =>
    obtain ⟨n, hk, rfl, hnew⟩ := hrel
    have hpl := esc_lens (t.take n)
    have hpl2 : (39 :: (t.take n).flatMap escB).length ≤ 3145729 := by rw [List.length_cons]; rw [List.length_take] at hpl; omega
    by_cases hlt : n < t.length
    · obtain ⟨x, hx⟩ : ∃ x, t[n]? = some x := ⟨t[n], List.getElem?_eq_getElem hlt⟩
      have hx' : t[n] = x := by rw [List.getElem?_eq_getElem hlt] at hx; injection hx
      have hgs : ∀ h, (⟨⟨t⟩⟩ : ByteArray)[n]'h = x := fun _ => hx'
      have hnx : 39 :: (t.take (n + 1)).flatMap escB = (39 :: (t.take n).flatMap escB) ++ escB x := by
        rw [List.take_add_one, hx]; simp
      generalize hpre : 39 :: (t.take n).flatMap escB = pre at *
      obtain ⟨A, cp, rfl, _, _⟩ := hnew.shape
      have hp := plain_any x
      unfold bt at hp
      cases hpx : plainB x with
      | true =>
        have HN : Hid (39 :: (t.take (n + 1)).flatMap escB = pre ++ [x]) := by unfold Hid; rw [hnx]; unfold escB; rw [if_pos hpx]
        rw [hpx] at hp
        clear hnx hpx hx hx' hpre
        go_wp2_with fail
        refine (hp _).mono ?_
        rintro e w' ⟨rfl, rfl⟩
        go_wp2_with (at_builtin; refine wpList_ex rfl _ _ _ _ rfl rfl rfl (New.lit _ _ (.int .u8 0) 1 Tryz.underlying34 (by kernel_rfl) rfl (by decide) encB_len encB_one hnew ((Kept.refl _ _).alloc _) [x] _ _ (heap_alloc_new _ _) (by simp only [maxLen, List.length_singleton]; omega) (by simp only [List.length_singleton]; omega)) ?_; rintro v' w2 ⟨A', c', rfl, hn2⟩)
        go_roundg (gk - 1)
        case measure => omega
        case rel => exact ⟨n + 1, by omega, int_eq (by omega), by rw [HN.out]; exact hn2⟩
      | false =>
        have HN : Hid (39 :: (t.take (n + 1)).flatMap escB = pre ++ [92, dgU (x.toNat / 16), dgU (x.toNat % 16)]) := by unfold Hid; rw [hnx]; unfold escB; rw [if_neg (by rw [hpx]; simp)]
        rw [hpx] at hp
        have hxb : x.toNat < 256 := x.toNat_lt
        have hd1 : ∀ wx, Calls Tryz.prog 184 #[.int .u8 ((x.toNat : Int) / 16)] wx fun e w' => e = .returned (.int .u8 ((dgU (x.toNat / 16)).toNat : Int)) ∧ w' = wx := fun wx => by
          rw [dgU_toNat (by omega)]; exact dig_any _ wx ⟨by omega, by omega⟩
        have hd2 : ∀ wx, Calls Tryz.prog 184 #[.int .u8 (bits .and .u8 (x.toNat : Int) 15)] wx fun e w' => e = .returned (.int .u8 ((dgU (x.toNat % 16)).toNat : Int)) ∧ w' = wx := fun wx => by
          have e2 : bits .and .u8 (x.toNat : Int) 15 = ((x.toNat % 16 : Nat) : Int) := by have := u8_and15 (x := (x.toNat : Int)) (by omega) (by omega); omega
          rw [dgU_toNat (by omega), e2]; exact dig_any _ wx ⟨by omega, by omega⟩
        generalize dgU (x.toNat / 16) = d1 at *
        generalize dgU (x.toNat % 16) = d2 at *
        clear hnx hpx hx hx' hpre
        have hnl : (n : Int) < (t.length : Int) := by omega
        go_wp2_with fail
        refine (hp _).mono ?_
        rintro e w' ⟨rfl, rfl⟩
        go_wp2_with fail
        go_region_law (first
          | (refine step_ex rfl _ _ _ _ rfl rfl rfl (New.lit _ _ (.int .u8 0) 1 Tryz.underlying34 (by kernel_rfl) rfl (by decide) encB_len encB_one hnew (by first | exact ((Kept.refl _ _).alloc _).drew | exact ((Kept.refl _ _).drew).alloc _) [92, d1, d2] _ _ (heap_alloc_new _ _) (by simp only [maxLen, List.length_cons, List.length_nil]; omega) (by simp only [List.length_cons, List.length_nil]; omega)) ?_; rintro v' w2 ⟨A', c', rfl, hn2⟩)
          | (go_simp; go_at_call 184; first | ((with_reducible refine (hd1 _).mono ?_); rintro e w' ⟨rfl, rfl⟩) | ((with_reducible refine (hd2 _).mono ?_); rintro e w' ⟨rfl, rfl⟩)))
        all_goals
          go_wp2_with fail
          go_roundg (gk - 1)
          case measure => omega
          case rel => exact ⟨n + 1, by omega, int_eq (by omega), by rw [HN.out]; exact hn2⟩
    · have e : n = t.length := by omega
      subst e
      rw [List.take_length] at hnew hpl2
      have HN : Hid (quoteS t = (39 :: t.flatMap escB) ++ [39]) := rfl
      generalize 39 :: t.flatMap escB = pre at *
      obtain ⟨A, cp, rfl, _, _⟩ := hnew.shape
      go_wp2_with (at_builtin; go_loud (refine wpList_ex rfl _ _ _ _ rfl rfl rfl (New.lit _ _ (.int .u8 0) 1 Tryz.underlying34 (by kernel_rfl) rfl (by decide) encB_len encB_one hnew ((Kept.refl _ _).alloc _) [39] _ _ (heap_alloc_new _ _) (by simp only [maxLen, List.length_singleton]; omega) (by simp only [List.length_singleton]; omega)) ?_; rintro v' w2 ⟨A', c', rfl, hn2⟩; have hcv := New.conv (n := pre.length + 1) hn2 (by simp)))
      go_ret
      exact ⟨ret_str (by rw [← HR.out, HN.out]), hn2.kept⟩

set_option maxRecDepth 100000 in
/-- A text is shown. -/
theorem vshow_any (t : List UInt8) (w : World) (h : t.length ≤ 64) : Calls Tryz.prog 121 #[.agg #[.int .i64 2, .int .i64 0, .string ⟨⟨t⟩⟩]] w fun e w' => e = .returned (.string ⟨⟨quoteS t⟩⟩) ∧ Kept (fun _ => False) w w' := by
  have ho : ∀ wx, Calls Tryz.prog 113 #[.agg #[.int .i64 2, .int .i64 0, .string ⟨⟨t⟩⟩]] wx fun e w' => e = .returned (.tuple #[.iface 210 (.string ⟨⟨t⟩⟩), .bool true]) ∧ Kept (fun _ => False) wx w' := fun wx => by
    have h0 := of_any ⟨2, 0, t⟩ wx
    have e1 : thingV ⟨2, 0, t⟩ = .iface 210 (.string ⟨⟨t⟩⟩) := by unfold thingV; rw [if_neg (by simp), if_pos ⟨rfl, rfl, h⟩]
    have e2 : valB ⟨2, 0, t⟩ = true := by unfold valB; simp [h]
    rw [e1, e2] at h0
    exact h0
  have hs := fun wx => wshow_any t wx (by omega)
  generalize quoteS t = R at *
  have hmth : ∀ (s : ByteArray) (W : World), (method 344 210 (.string s) "rescind/value.show").run Tryz.prog W = .ok (183, .string s) W := fun _ _ => by kernel_rfl
  go_enter Tryz.func121, Tryz.ntmps121
  go_wp2_with fail
  refine (ho _).mono ?_
  rintro e w' ⟨rfl, k⟩
  go_wp2_with fail
  refine (hs _).mono ?_
  rintro e w2 ⟨rfl, k2⟩
  go_wp2_with fail
  go_ret
  exact ⟨rfl, (((Kept.refl _ w).alloc _).trans k).trans k2⟩
end Go.Proofs.YtballmombklalaaGreat

/- value: unquote, Text, Parse. -/
namespace Go.Proofs.YtballmombklalaaGreat
open Go.RowKit

theorem hexI_bd (n : Int) : 0 ≤ hexI n ∧ hexI n ≤ 16 := by unfold hexI; (repeat' split) <;> omega
theorem or16 (x y : Nat) (hx : x < 16) (hy : y < 16) : bits .or .u8 ((x : Int) * 16) (y : Int) = ((x * 16 + y : Nat) : Int) := by
  have h := u8_or_nat (x * 16) y (by omega) (by omega)
  have hd : ∀ a b : Fin 16, (a.val * 16 ||| b.val) = a.val * 16 + b.val := by decide
  have := hd ⟨x, hx⟩ ⟨y, hy⟩
  simp only at this
  rw [this] at h
  rw [← h]
  congr 1

/-- What two digits of the base 16 say. -/
def twoU (a b : UInt8) : UInt8 := (hexI a.toNat * 16 + hexI b.toNat).toNat.toUInt8
/-- The byte that is written behind a backslash, and the rest. -/
def unqE : List UInt8 → Option (UInt8 × List UInt8)
  | a :: b :: r => if 15 < hexI a.toNat then none else if 15 < hexI b.toNat then none else if plainB (twoU a b) = true then none else some (twoU a b, r)
  | _ => none
/-- What is written in the rest of a text, behind what there is already. -/
def unqF : Nat → List UInt8 → List UInt8 → Option (List UInt8)
  | 0, _, _ => none
  | _ + 1, [], acc => some acc
  | n + 1, c :: r, acc =>
    if c = 92 then (match unqE r with | some x => unqF n x.2 (acc ++ [x.1]) | none => none)
    else if plainB c = true then unqF n r (acc ++ [c]) else none
theorem unqE_short {r : List UInt8} (h : r.length < 2) : unqE r = none := by
  cases r with
  | nil => rfl
  | cons a r => cases r with
    | nil => rfl
    | cons b r => simp only [List.length_cons] at h; omega
def unqS (s : List UInt8) : Option (List UInt8) :=
  if s.length < 2 then none else if s[s.length - 1]? = some 39 then unqF (s.length + 1) ((s.drop 1).take (s.length - 2)) [] else none
def unqV : Option (List UInt8) → Value
  | none => .tuple #[.string ByteArray.empty, .bool false]
  | some t => .tuple #[.string ⟨⟨t⟩⟩, .bool true]

set_option maxHeartbeats 4000000 in
set_option maxRecDepth 100000 in
theorem unquote_any (s : List UInt8) (w : World) (hl : s.length ≤ 1048576) : Calls Tryz.prog 156 #[.string ⟨⟨s⟩⟩] w fun e w' => e = .returned (unqV (unqS s)) ∧ Kept (fun _ => False) w w' := by
  unfold unqS
  by_cases h2 : s.length < 2
  · rw [if_pos h2]
    unfold unqV
    have b1 : decide ((s.length : Int) < 2) = true := by simp; omega
    go_enter Tryz.func156, Tryz.ntmps156
    go_wp2_with fail
    go_ret2
    exact ⟨rfl, Kept.refl _ w⟩
  · rw [if_neg h2]
    have b1 : decide ((s.length : Int) < 2) = false := by simp; omega
    obtain ⟨z, hz⟩ : ∃ z, s[s.length - 1]? = some z := ⟨s[s.length - 1]'(by omega), List.getElem?_eq_getElem (by omega)⟩
    have hz' : s[s.length - 1]'(by omega) = z := by rw [List.getElem?_eq_getElem (by omega)] at hz; injection hz
    have hgz : ∀ h, (⟨⟨s⟩⟩ : ByteArray)[s.length - 1]'h = z := fun _ => hz'
    rw [hz]
    by_cases h39 : z = 39
    · subst h39
      rw [if_pos rfl]
      have hb0 : (((39 : UInt8).toNat : Int) != 39) = false := rfl
      have hsl := fun wx => slice_lohi (P := Tryz.prog) 9 Tryz.underlying9 s 1 ((s.length : Int) - 1) (by omega) (by omega) (by omega) wx
      have hbl : ((s.drop 1).take (s.length - 2)).length = s.length - 2 := by rw [List.length_take, List.length_drop]; omega
      rw [show ((s.length : Int) - 1).toNat - (1 : Int).toNat = s.length - 2 by omega, show (1 : Int).toNat = 1 from rfl] at hsl
      generalize hbd : (s.drop 1).take (s.length - 2) = body at *
      generalize hR0 : unqF (s.length + 1) body [] = R
      have hbs : body.length ≤ s.length := by omega
      clear hz hz' hbd hbl
      obtain ⟨RV, hRV0⟩ : ∃ RV, unqV R = RV := ⟨_, rfl⟩
      have HRV : Hid (unqV R = RV) := hRV0
      rw [hRV0]
      clear hRV0
      go_enter Tryz.func156, Tryz.ntmps156
      go_wp2_with fail
      clear hgz
      go_loopg [4, 5] (s.length + 1) (fun k ov iv wr => ∃ (n : Nat) (acc : List UInt8), iv = .int .i64 n ∧ n ≤ body.length ∧ body.length < n + k ∧ unqF k (body.drop n) acc = R ∧ New encB 1 5 w wr ov acc ∧ acc.length ≤ n)
      case atStart => exact ⟨0, [], rfl, by omega, by omega, hR0, New.mk0 w, Nat.le_refl _⟩
      case round =>
        obtain ⟨n, acc, rfl, hn, hk, hR, hnew, hal⟩ := hrel
        clear hR0 hsl
        obtain ⟨k, rfl⟩ : ∃ k, gk = k + 1 := ⟨gk - 1, by omega⟩
        obtain ⟨A, cp, rfl, _, _⟩ := hnew.shape
        by_cases hlt : n < body.length
        · obtain ⟨c, hc⟩ : ∃ c, body[n]? = some c := ⟨body[n], List.getElem?_eq_getElem hlt⟩
          have hc' : body[n] = c := by rw [List.getElem?_eq_getElem hlt] at hc; injection hc
          have hg0 : ∀ h, (⟨⟨body⟩⟩ : ByteArray)[n]'h = c := fun _ => hc'
          have hdr : body.drop n = c :: body.drop (n + 1) := by rw [List.drop_eq_getElem_cons hlt, hc']
          rw [hdr, unqF] at hR
          by_cases hc92 : c = 92
          · subst hc92
            rw [if_pos rfl] at hR
            have hb92 : (((92 : UInt8).toNat : Int) == 92) = true := rfl
            by_cases h2' : body.length ≤ n + 2
            · rw [unqE_short (by rw [List.length_drop]; omega)] at hR
              subst hR
              have b2 : decide ((body.length : Int) ≤ (n : Int) + 2) = true := by simp; omega
              clear hdr hc hc'
              go_wp2_with fail
              go_ret2
              exact ⟨congrArg Ending.returned HRV.out, hnew.kept⟩
            · have b2 : decide ((body.length : Int) ≤ (n : Int) + 2) = false := by simp; omega
              obtain ⟨a, ha⟩ : ∃ a, body[n + 1]'(by omega) = a := ⟨_, rfl⟩
              obtain ⟨b, hb⟩ : ∃ b, body[n + 2]'(by omega) = b := ⟨_, rfl⟩
              have hg1 : ∀ h, (⟨⟨body⟩⟩ : ByteArray)[n + 1]'h = a := fun _ => ha
              have hg2 : ∀ h, (⟨⟨body⟩⟩ : ByteArray)[n + 2]'h = b := fun _ => hb
              rw [List.drop_eq_getElem_cons (show n + 1 < body.length by omega), ha, List.drop_eq_getElem_cons (show n + 1 + 1 < body.length by omega), show body[n + 1 + 1]'(by omega) = b from hb, unqE] at hR
              have hxa : ∀ wx, Calls Tryz.prog 160 #[.int .u8 (a.toNat : Int)] wx fun e w' => e = .returned (.int .u8 (hexI a.toNat)) ∧ w' = wx := fun wx => hex_any a wx
              have hxb : ∀ wx, Calls Tryz.prog 160 #[.int .u8 (b.toNat : Int)] wx fun e w' => e = .returned (.int .u8 (hexI b.toNat)) ∧ w' = wx := fun wx => hex_any b wx
              have hba := hexI_bd a.toNat
              have hbb := hexI_bd b.toNat
              have hp := plain_any (twoU a b)
              unfold bt at hp
              have htw : Hid (hexI a.toNat ≤ 15 → hexI b.toNat ≤ 15 → ((twoU a b).toNat : Int) = hexI a.toNat * 16 + hexI b.toNat) := fun q1 q2 => by
                unfold twoU; rw [Lib.toUInt8_toNat (by omega)]; omega
              generalize hexI a.toNat = xa at *
              generalize hexI b.toNat = xb at *
              generalize twoU a b = v at *
              clear hdr hc hc' ha hb
              by_cases g1 : 15 < xa
              · rw [if_pos g1] at hR
                subst hR
                have g1' : decide ((15 : Int) < xa) = true := by simpa using g1
                go_wp2_with fail
                refine (hxa _).mono ?_
                rintro e w' ⟨rfl, rfl⟩
                go_wp2_with fail
                go_ret2
                exact ⟨congrArg Ending.returned HRV.out, hnew.kept⟩
              · rw [if_neg g1] at hR
                have g1' : decide ((15 : Int) < xa) = false := by simp; omega
                by_cases g2 : 15 < xb
                · rw [if_pos g2] at hR
                  subst hR
                  have g2' : decide ((15 : Int) < xb) = true := by simpa using g2
                  clear g1
                  go_wp2_with fail
                  refine (hxa _).mono ?_
                  rintro e w' ⟨rfl, rfl⟩
                  go_wp2_with fail
                  refine (hxb _).mono ?_
                  rintro e w' ⟨rfl, rfl⟩
                  go_wp2_with fail
                  go_ret2
                  exact ⟨congrArg Ending.returned HRV.out, hnew.kept⟩
                · rw [if_neg g2] at hR
                  have g2' : decide ((15 : Int) < xb) = false := by simp; omega
                  have hv := htw.out (by omega) (by omega)
                  obtain ⟨ya, rfl⟩ := Int.eq_ofNat_of_zero_le hba.1
                  obtain ⟨yb, rfl⟩ := Int.eq_ofNat_of_zero_le hbb.1
                  have hor := or16 ya yb (by omega) (by omega)
                  have hvn : ((ya * 16 + yb : Nat) : Int) = (v.toNat : Int) := by omega
                  rw [hvn] at hor
                  have hsh : IntKind.u8.wrap ((ya : Int) * 16) = (ya : Int) * 16 := by rw [IntKind.wrap_u8]; omega
                  have hn1 : (n : Int) + 1 < (body.length : Int) := by omega
                  have hn2' : (n : Int) + 2 < (body.length : Int) := by omega
                  have HB1 := hba.2
                  have HB2 := hbb.2
                  have s1 : IntKind.i64.wrap ((n : Int) + 1) = (n : Int) + 1 := IntWalk.i64_in _ (by omega)
                  have s2 : IntKind.i64.wrap ((n : Int) + 2) = (n : Int) + 2 := IntWalk.i64_in _ (by omega)
                  have s3 : 0 ≤ (n : Int) + 1 := by omega
                  have s4 : 0 ≤ (n : Int) + 2 := by omega
                  have s5 : ((n : Int) + 1).toNat = n + 1 := by omega
                  have s6 : ((n : Int) + 2).toNat = n + 2 := by omega
                  clear htw hv hvn hba hbb g1 g2
                  cases hpx : plainB v with
                  | true =>
                    rw [hpx] at hp
                    rw [hpx, if_pos rfl] at hR
                    subst hR
                    clear hpx
                    go_wp2_with fail
                    refine (hxa _).mono ?_
                    rintro e w' ⟨rfl, rfl⟩
                    go_wp2_with fail
                    refine (hxb _).mono ?_
                    rintro e w' ⟨rfl, rfl⟩
                    go_wp2_with fail
                    go_quiet ((go_at_call 160; first | (with_reducible exact Calls.quiet_of_same (hxa _)) | (with_reducible exact Calls.quiet_of_same (hxb _))))
                    go_wp2_with fail
                    refine (hp _).mono ?_
                    rintro e w3 ⟨rfl, rfl⟩
                    go_wp2_with fail
                    go_ret2
                    exact ⟨congrArg Ending.returned HRV.out, hnew.kept.drewN _⟩
                  | false =>
                    rw [hpx] at hp
                    rw [hpx, if_neg (by simp)] at hR
                    have hR' : Hid (unqF k (body.drop (n + 1 + 1 + 1)) (acc ++ [v]) = R) := hR
                    clear hpx hR
                    go_wp2_with fail
                    refine (hxa _).mono ?_
                    rintro e w' ⟨rfl, rfl⟩
                    go_wp2_with fail
                    refine (hxb _).mono ?_
                    rintro e w' ⟨rfl, rfl⟩
                    go_wp2_with fail
                    go_quiet ((go_at_call 160; first | (with_reducible exact Calls.quiet_of_same (hxa _)) | (with_reducible exact Calls.quiet_of_same (hxb _))))
                    go_wp2_with fail
                    refine (hp _).mono ?_
                    rintro e w3 ⟨rfl, rfl⟩
                    clear s1 s2 s3 s4 s5 s6
                    go_wp2_with (at_builtin; refine wpList_ex rfl _ _ _ _ rfl rfl rfl (New.lit _ _ (.int .u8 0) 1 Tryz.underlying34 (by kernel_rfl) rfl (by decide) encB_len encB_one (hnew.same (drew_kept _ nq)) ((Kept.refl _ _).alloc _) [v] _ _ (heap_alloc_new _ _) (by simp only [maxLen, List.length_singleton]; omega) (by simp only [List.length_singleton]; omega)) ?_; rintro v' w2 ⟨A', c', rfl, hn2⟩)
                    go_roundg k
                    case measure => omega
                    case rel => exact ⟨n + 1 + 1 + 1, _, int_eq (by omega), by omega, by omega, hR', hn2, by rw [List.length_append, List.length_singleton]; omega⟩
          · have hb92 : ((c.toNat : Int) == 92) = false := u8_ne hc92 rfl
            rw [if_neg hc92] at hR
            have hp := plain_any c
            unfold bt at hp
            cases hpx : plainB c with
            | true =>
              rw [hpx] at hp
              rw [if_pos hpx] at hR
              have hR' : Hid (unqF k (body.drop (n + 1)) (acc ++ [c]) = R) := hR
              clear hR hdr hc hc' hc92 hpx
              go_wp2_with fail
              refine (hp _).mono ?_
              rintro e w' ⟨rfl, rfl⟩
              go_wp2_with (at_builtin; refine wpList_ex rfl _ _ _ _ rfl rfl rfl (New.lit _ _ (.int .u8 0) 1 Tryz.underlying34 (by kernel_rfl) rfl (by decide) encB_len encB_one hnew ((Kept.refl _ _).alloc _) [c] _ _ (heap_alloc_new _ _) (by simp only [maxLen, List.length_singleton]; omega) (by simp only [List.length_singleton]; omega)) ?_; rintro v' w2 ⟨A', c', rfl, hn2⟩)
              go_roundg k
              case measure => omega
              case rel => exact ⟨n + 1, _, int_eq (by omega), by omega, by omega, hR', hn2, by rw [List.length_append, List.length_singleton]; omega⟩
            | false =>
              rw [hpx] at hp
              rw [if_neg (by rw [hpx]; simp)] at hR
              subst hR
              clear hdr hc hc' hc92 hpx
              go_wp2_with fail
              refine (hp _).mono ?_
              rintro e w' ⟨rfl, rfl⟩
              go_wp2_with fail
              go_ret2
              exact ⟨congrArg Ending.returned HRV.out, hnew.kept⟩
        · have e : n = body.length := by omega
          subst e
          rw [List.drop_length, unqF] at hR
          subst hR
          have hcv := hnew.conv rfl
          go_wp2_with fail
          go_ret2
          exact ⟨congrArg Ending.returned HRV.out, hnew.kept⟩
    · have hb : ((z.toNat : Int) == 39) = false := u8_ne h39 rfl
      have hb2 : ((z.toNat : Int) != 39) = true := by rw [bne, hb]; rfl
      rw [if_neg (fun q => h39 (by injection q))]
      unfold unqV
      clear hz hz' h39
      go_enter Tryz.func156, Tryz.ntmps156
      go_wp2_with fail
      go_ret2
      exact ⟨rfl, Kept.refl _ w⟩

theorem vtext_any (t : List UInt8) (w : World) (hl : t.length ≤ 1048576) : Calls Tryz.prog 157 #[.string ⟨⟨t⟩⟩] w fun e w' =>
    e = .returned (if t.length ≤ 64 then .tuple #[.agg #[.int .i64 2, .int .i64 0, .string ⟨⟨t⟩⟩], .int .i64 0] else .tuple #[.agg #[.int .i64 0, .int .i64 0, .string ByteArray.empty], .int .i64 6]) ∧ Kept (fun _ => False) w w' := by
  by_cases h : t.length ≤ 64
  · rw [if_pos h]
    have b1 : decide ((64 : Int) < (t.length : Int)) = false := by simp; omega
    go_enter Tryz.func157, Tryz.ntmps157
    go_wp2_with fail
    exact bodyPost_ret (v := .tuple #[.agg #[.int .i64 2, .int .i64 0, .string ⟨⟨t⟩⟩], .int .i64 0]) (by simp [results, Tryz.results157, go_sem]) rfl ⟨rfl, (Kept.refl _ w).alloc _⟩
  · rw [if_neg h]
    have b1 : decide ((64 : Int) < (t.length : Int)) = true := by simp; omega
    go_enter Tryz.func157, Tryz.ntmps157
    go_wp2_with fail
    exact bodyPost_ret (v := .tuple #[.agg #[.int .i64 0, .int .i64 0, .string ByteArray.empty], .int .i64 6]) (by simp [results, Tryz.results157, go_sem] <;> rfl) rfl ⟨rfl, (Kept.refl _ w).alloc _⟩

/-- What is read of a written text: the text, or why not. -/
def parQ (s : List UInt8) : List UInt8 × Int :=
  match unqS s with
  | none => ([], 4)
  | some t => if t.length ≤ 64 then (t, 0) else ([], 6)
theorem unq_len : ∀ (n : Nat) (s acc t : List UInt8), unqF n s acc = some t → t.length ≤ s.length + acc.length
  | 0, s, acc, t, h => by simp [unqF] at h
  | n + 1, [], acc, t, h => by simp [unqF] at h; subst h; simp
  | n + 1, c :: r, acc, t, h => by
    rw [unqF] at h
    split at h
    · cases hE : unqE r with
      | none => rw [hE] at h; cases h
      | some x =>
        rw [hE] at h
        have := unq_len n _ _ _ h
        have h2 : x.2.length ≤ r.length := by
          unfold unqE at hE
          split at hE
          · (repeat' split at hE) <;> first | (cases hE; done) | (injection hE with hE; subst hE; simp; omega)
          · cases hE
        rw [List.length_append, List.length_singleton] at this
        simp only [List.length_cons]; omega
    · split at h
      · have := unq_len n _ _ _ h
        rw [List.length_append, List.length_singleton] at this
        simp only [List.length_cons]; omega
      · cases h
theorem unqS_len {s t : List UInt8} (h : unqS s = some t) : t.length ≤ s.length := by
  unfold unqS at h
  split at h
  · cases h
  · split at h
    · have := unq_len _ _ _ _ h
      rw [List.length_take, List.length_nil] at this
      omega
    · cases h

def kindQ (s : List UInt8) : Int := if (parQ s).2 = 0 then 2 else 0
set_option maxRecDepth 100000 in
theorem vparse_any (s : List UInt8) (w : World) (hl : s.length ≤ 1048576) (h0 : s[0]? = some 39) : Calls Tryz.prog 154 #[.string ⟨⟨s⟩⟩] w fun e w' =>
    e = .returned (.tuple #[.agg #[.int .i64 (kindQ s), .int .i64 0, .string ⟨⟨(parQ s).1⟩⟩], .int .i64 (parQ s).2]) ∧ Kept (fun _ => False) w w' := by
  have hu := fun wx => unquote_any s wx hl
  obtain ⟨c, r, hs⟩ : ∃ c r, s = c :: r := by cases s with | nil => simp at h0 | cons c r => exact ⟨c, r, rfl⟩
  have hc : c = 39 := by subst hs; simpa using h0
  have hg : ∀ h, (⟨⟨s⟩⟩ : ByteArray)[0]'h = c := by subst hs; exact fun _ => rfl
  have hb : ((c.toNat : Int) == 39) = true := by subst hc; rfl
  have hse : (s == []) = false := by subst hs; rfl
  have hpos : 0 < s.length := by subst hs; simp
  unfold kindQ parQ
  cases hR : unqS s with
  | none =>
    rw [hR] at hu
    unfold unqV at hu
    clear hR hs hc h0
    simp only
    go_enter Tryz.func154, Tryz.ntmps154
    go_wp2_with fail
    refine (hu _).mono ?_
    rintro e w' ⟨rfl, k⟩
    have q0 := k.heap (heap_alloc_new w _) (fun q => q)
    have kW := ((Kept.refl (fun _ => False) w).alloc _).trans k
    have hb3 := blk_set (blk_set (blk_set q0 0 (.int .i64 0)) 1 (.int .i64 0)) 2 (.string ⟨#[]⟩)
    have kf : Hid (Kept (fun _ => False) w (((w'.setCell ⟨w.heap.size, 0, none⟩ (.int .i64 0)).setCell ⟨w.heap.size, 1, none⟩ (.int .i64 0)).setCell ⟨w.heap.size, 2, none⟩ (.string ⟨#[]⟩))) :=
      kW.trans' (((((Kept.refl (fun j => j = w.heap.size) w').setCell (p := ⟨w.heap.size, 0, none⟩) (fun _ => rfl) _).setCell (p := ⟨w.heap.size, 1, none⟩) (fun _ => rfl) _)).setCell (p := ⟨w.heap.size, 2, none⟩) (fun _ => rfl) _) (fun _ _ q => q) (fun i hi q => by omega)
    have f0 := frozen_of q0 0
    have f1 := frozen_of q0 1
    have f2 := frozen_of q0 2
    have c0 := cell_of_row w' w.heap.size 0 _ _ _ q0
    have c1 := cell_of_row w' w.heap.size 1 _ _ _ q0
    have c2 := cell_of_row w' w.heap.size 2 _ _ _ q0
    simp only [List.getElem?_toArray, List.getElem?_cons_zero, List.getElem?_cons_succ] at c0 c1 c2
    have HB := Lib.hid hb3
    clear hb3
    go_wp2_with fail
    have y0 := cell_of_row _ w.heap.size 0 _ _ _ HB.out
    have y1 := cell_of_row _ w.heap.size 1 _ _ _ HB.out
    have y2 := cell_of_row _ w.heap.size 2 _ _ _ HB.out
    simp only [Array.setIfInBounds, List.size_toArray, List.length_cons, List.length_nil] at y0 y1 y2
    exact bodyPost_ret (v := .tuple #[.agg #[.int .i64 0, .int .i64 0, .string ⟨#[]⟩], .int .i64 4]) (by simp [results, Tryz.results154, go_sem, Act.put, y0, y1, y2]) rfl ⟨rfl, kf⟩
  | some t =>
    rw [hR] at hu
    unfold unqV at hu
    have htl := unqS_len hR
    have ht := fun wx => vtext_any t wx (by omega)
    clear hR hs hc h0
    simp only
    by_cases h64 : t.length ≤ 64
    · simp only [if_pos h64] at ht ⊢
      go_enter Tryz.func154, Tryz.ntmps154
      go_wp2_with fail
      refine (hu _).mono ?_
      rintro e w1 ⟨rfl, k1⟩
      go_wp2_with fail
      refine (ht _).mono ?_
      rintro e w2 ⟨rfl, k2⟩
      have q0 := k2.heap (k1.heap (heap_alloc_new w _) (fun q => q)) (fun q => q)
      have kW := (((Kept.refl (fun _ => False) w).alloc _).trans k1).trans k2
      have hb3 := blk_set (blk_set (blk_set q0 0 (.int .i64 2)) 1 (.int .i64 0)) 2 (.string ⟨⟨t⟩⟩)
      have kf : Hid (Kept (fun _ => False) w (((w2.setCell ⟨w.heap.size, 0, none⟩ (.int .i64 2)).setCell ⟨w.heap.size, 1, none⟩ (.int .i64 0)).setCell ⟨w.heap.size, 2, none⟩ (.string ⟨⟨t⟩⟩))) :=
        kW.trans' (((((Kept.refl (fun j => j = w.heap.size) w2).setCell (p := ⟨w.heap.size, 0, none⟩) (fun _ => rfl) _).setCell (p := ⟨w.heap.size, 1, none⟩) (fun _ => rfl) _)).setCell (p := ⟨w.heap.size, 2, none⟩) (fun _ => rfl) _) (fun _ _ q => q) (fun i hi q => by omega)
      have f0 := frozen_of q0 0
      have f1 := frozen_of q0 1
      have f2 := frozen_of q0 2
      have c0 := cell_of_row w2 w.heap.size 0 _ _ _ q0
      have c1 := cell_of_row w2 w.heap.size 1 _ _ _ q0
      have c2 := cell_of_row w2 w.heap.size 2 _ _ _ q0
      simp only [List.getElem?_toArray, List.getElem?_cons_zero, List.getElem?_cons_succ] at c0 c1 c2
      have HB := Lib.hid hb3
      clear hb3
      go_wp2_with fail
      have y0 := cell_of_row _ w.heap.size 0 _ _ _ HB.out
      have y1 := cell_of_row _ w.heap.size 1 _ _ _ HB.out
      have y2 := cell_of_row _ w.heap.size 2 _ _ _ HB.out
      simp only [Array.setIfInBounds, List.size_toArray, List.length_cons, List.length_nil] at y0 y1 y2
      exact bodyPost_ret (v := .tuple #[.agg #[.int .i64 2, .int .i64 0, .string ⟨⟨t⟩⟩], .int .i64 0]) (by simp [results, Tryz.results154, go_sem, Act.put, y0, y1, y2]) rfl ⟨rfl, kf⟩
    · simp only [if_neg h64] at ht ⊢
      go_enter Tryz.func154, Tryz.ntmps154
      go_wp2_with fail
      refine (hu _).mono ?_
      rintro e w1 ⟨rfl, k1⟩
      go_wp2_with fail
      refine (ht _).mono ?_
      rintro e w2 ⟨rfl, k2⟩
      have q0 := k2.heap (k1.heap (heap_alloc_new w _) (fun q => q)) (fun q => q)
      have kW := (((Kept.refl (fun _ => False) w).alloc _).trans k1).trans k2
      have hb3 := blk_set (blk_set (blk_set q0 0 (.int .i64 0)) 1 (.int .i64 0)) 2 (.string ByteArray.empty)
      have kf : Hid (Kept (fun _ => False) w (((w2.setCell ⟨w.heap.size, 0, none⟩ (.int .i64 0)).setCell ⟨w.heap.size, 1, none⟩ (.int .i64 0)).setCell ⟨w.heap.size, 2, none⟩ (.string ByteArray.empty))) :=
        kW.trans' (((((Kept.refl (fun j => j = w.heap.size) w2).setCell (p := ⟨w.heap.size, 0, none⟩) (fun _ => rfl) _).setCell (p := ⟨w.heap.size, 1, none⟩) (fun _ => rfl) _)).setCell (p := ⟨w.heap.size, 2, none⟩) (fun _ => rfl) _) (fun _ _ q => q) (fun i hi q => by omega)
      have f0 := frozen_of q0 0
      have f1 := frozen_of q0 1
      have f2 := frozen_of q0 2
      have c0 := cell_of_row w2 w.heap.size 0 _ _ _ q0
      have c1 := cell_of_row w2 w.heap.size 1 _ _ _ q0
      have c2 := cell_of_row w2 w.heap.size 2 _ _ _ q0
      simp only [List.getElem?_toArray, List.getElem?_cons_zero, List.getElem?_cons_succ] at c0 c1 c2
      have HB := Lib.hid hb3
      clear hb3
      go_wp2_with fail
      have y0 := cell_of_row _ w.heap.size 0 _ _ _ HB.out
      have y1 := cell_of_row _ w.heap.size 1 _ _ _ HB.out
      have y2 := cell_of_row _ w.heap.size 2 _ _ _ HB.out
      simp only [Array.setIfInBounds, List.size_toArray, List.length_cons, List.length_nil] at y0 y1 y2
      exact bodyPost_ret (v := .tuple #[.agg #[.int .i64 0, .int .i64 0, .string ByteArray.empty], .int .i64 6]) (by simp [results, Tryz.results154, go_sem, Act.put, y0, y1, y2]) rfl ⟨rfl, kf⟩
end Go.Proofs.YtballmombklalaaGreat
