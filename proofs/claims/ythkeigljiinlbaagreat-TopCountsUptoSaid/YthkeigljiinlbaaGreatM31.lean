/- Maps: an association list in a block. -/
import Derived.Test.YthkeigljiinlbaaGreatM30
import Derived.MapKept
import Derived.Maps.RangeRun
import Derived.Laws.BytesArg
import Derived.Shelf.Bytes.SlSmallAll
import Derived.Laws.IdiomStrings
namespace Go.Proofs.YthkeigljiinlbaaGreat
open Go.RowKit Go.MapKept

section
variable {P : Program} {w W : World} {mt kt et : TypeId} {d : TypeDesc} {b r : Nat}

/-- Block b is a map; its keys and values, as they came. -/
structure MapA (d : TypeDesc) (w : World) (b : Nat) (es : Array MapEntry) (clock : Nat) : Prop where
  at_ : w.heap[b]? = some (.map es clock)
  st : Stamped es clock
  keys : ∀ x ∈ es.toList, IsKey d x.key
theorem MapA.new (w : World) : MapA d (w.alloc (.map #[] 0)) w.heap.size #[] 0 := ⟨heap_alloc_new w _, stamped_empty 0, by simp⟩
theorem MapA.kept {S : Nat → Prop} {es : Array MapEntry} {clock : Nat} (h : MapA d w b es clock) (k : Kept S w W) (hb : ¬ S b) : MapA d W b es clock := ⟨k.heap h.at_ hb, h.st, h.keys⟩
theorem putObj_at {w : World} {b : Nat} {o : Obj} (h : w.heap[b]? = some o) (o' : Obj) : (w.putObj b o').heap[b]? = some o' := by
  have := (Array.getElem?_eq_some_iff.1 h).1
  unfold World.putObj
  simp [this]
/-- What is looked up. -/
theorem MapA.look {es : Array MapEntry} {clock : Nat} (h : MapA d w b es clock) (hm : P.underlying mt = some (.map kt et)) (hd : P.underlying kt = some d) {k z : Value} (hk : IsKey d k) (hz : (zeroValue et).run P w = .ok z w) :
    ((∀ x ∈ es.toList, x.key ≠ k) ∧ (Instr.lookup mt (.map (some b)) k false).run P w = .ok z w) ∨ ∃ x ∈ es.toList, x.key = k ∧ (Instr.lookup mt (.map (some b)) k false).run P w = .ok x.val w := by
  rcases findNow_spec hk es.toList 0 h.keys with ⟨h1, h2⟩ | ⟨j, e, h1, h2, h3⟩
  · exact .inl ⟨h2, by simp [Instr.lookup, run_underlying hm, MapKept.run_getObj_map h.at_, run_checkKey hd hk, run_findKey hd h1, hz, Result.andThen]⟩
  · exact .inr ⟨e, List.mem_of_getElem? h2, h3, by simp [Instr.lookup, run_underlying hm, MapKept.run_getObj_map h.at_, run_checkKey hd hk, run_findKey hd h1, Result.andThen]⟩
/-- What is written. -/
theorem MapA.upd {es : Array MapEntry} {clock : Nat} (h : MapA d w b es clock) (hm : P.underlying mt = some (.map kt et)) (hd : P.underlying kt = some d) {k : Value} (hk : IsKey d k) (v : Value) :
    ∃ es' clock' W, (Instr.mapUpdate mt (.map (some b)) k v).run P w = .ok () W ∧ MapA d W b es' clock' ∧ Kept (fun j => j = b) w W ∧
      ((∀ x ∈ es.toList, x.key ≠ k) ∧ es' = es.push ⟨k, v, clock⟩ ∧ clock' = clock + 1 ∨ ∃ x ∈ es.toList, x.key = k ∧ clock' = clock ∧ es'.size = es.size ∧ (∀ y ∈ es'.toList, (y.key = k ∧ y.val = v) ∨ y ∈ es.toList) ∧ es'.toList.map (·.key) = es.toList.map (·.key)) := by
  have kp : ∀ o, Kept (fun j => j = b) w (w.putObj b o) := fun o => (Kept.refl _ w).putObj b o (fun _ => rfl)
  rcases findNow_spec hk es.toList 0 h.keys with ⟨h1, h2⟩ | ⟨j, e, h1, h2, h3⟩
  · refine ⟨es.push ⟨k, v, clock⟩, clock + 1, w.putObj b (.map (es.push ⟨k, v, clock⟩) (clock + 1)), ?_, ⟨putObj_at h.at_ _, stamped_push h.st h2, ?_⟩, kp _, .inl ⟨h2, rfl, rfl⟩⟩
    · simp [Instr.mapUpdate, run_underlying hm, MapKept.run_getObj_map h.at_, run_checkKey hd hk, run_findKey hd h1, MapKept.run_setObj_map _ h.at_, Result.andThen]
      rfl
    · intro x hx
      simp only [Array.toList_push, List.mem_append, List.mem_singleton] at hx
      rcases hx with hx | rfl
      · exact h.keys x hx
      · exact hk
  · have hj : es[j]? = some e := by simpa using h2
    have hkey : ∀ e', es[j]? = some e' → ({ e' with key := k, val := v } : MapEntry).key = e'.key := fun e' he' => by rw [hj] at he'; cases he'; exact h3.symm
    refine ⟨es.modify j fun e => { e with key := k, val := v }, clock, w.putObj b (.map (es.modify j fun e => { e with key := k, val := v }) clock), ?_, ⟨putObj_at h.at_ _, stamped_modify h.st _ _ (fun _ _ => rfl) (fun e' _ he' => hkey e' he'), isKey_modify h.keys _ _ hkey⟩, kp _, .inr ⟨e, List.mem_of_getElem? h2, h3, rfl, by simp, ?_, modify_keys j _ hkey⟩⟩
    · simp [Instr.mapUpdate, run_underlying hm, MapKept.run_getObj_map h.at_, run_checkKey hd hk, run_findKey hd h1, hj, h3, run_keyThatStays hk, MapKept.run_setObj_map _ h.at_, Result.andThen]
      rfl
    · intro y hy
      obtain ⟨i, hi⟩ := List.getElem?_of_mem hy
      rw [Array.getElem?_toList, Array.getElem?_modify] at hi
      by_cases hij : j = i
      · rw [if_pos hij] at hi
        cases he : es[i]? with
        | none => rw [he] at hi; cases hi
        | some e2 =>
          rw [he] at hi
          injection hi with hi
          subst hi
          exact .inl ⟨rfl, rfl⟩
      · rw [if_neg hij] at hi
        exact .inr (List.mem_of_getElem? (by rw [Array.getElem?_toList]; exact hi))

/-- An iterator over it. -/
structure IterA (d : TypeDesc) (w : World) (r b : Nat) (es : Array MapEntry) (clock : Nat) (seen : Array Nat) : Prop where
  map : MapA d w b es clock
  it : w.heap[r]? = some (.mapIter (some b) clock seen clock)
theorem IterA.kept {S : Nat → Prop} {es : Array MapEntry} {clock : Nat} {seen : Array Nat} (h : IterA d w r b es clock seen) (k : Kept S w W) (hb : ¬ S b) (hr : ¬ S r) : IterA d W r b es clock seen := ⟨h.map.kept k hb, k.heap h.it hr⟩
theorem MapA.range {es : Array MapEntry} {clock : Nat} (h : MapA d w b es clock) (hm : P.underlying mt = some (.map kt et)) :
    (Instr.range mt (.map (some b))).run P w = .ok (.pointer (some ⟨w.heap.size, 0, none⟩)) (w.alloc (.mapIter (some b) clock #[] clock)) ∧ IterA d (w.alloc (.mapIter (some b) clock #[] clock)) w.heap.size b es clock #[] := by
  have hlt := (Array.getElem?_eq_some_iff.1 h.at_).1
  exact ⟨run_range_map w mt kt et b es clock hm h.at_, h.kept ((Kept.refl (fun _ => False) w).alloc _) (fun q => q), heap_alloc_new w _⟩
theorem IterA.next {es : Array MapEntry} {clock : Nat} {seen : Array Nat} (h : IterA d w r b es clock seen) (ty : TypeId) :
    ((leftOf es seen).toList = [] ∧ (Instr.next (.pointer (some ⟨r, 0, none⟩)) false ty).run P w = .ok (.tuple #[.bool false]) w) ∨
    ∃ e ∈ (leftOf es seen).toList, ∃ W, (Instr.next (.pointer (some ⟨r, 0, none⟩)) false ty).run P w = .ok (.tuple #[.bool true, e.key, e.val]) W ∧ IterA d W r b es clock (seen.push e.born) ∧ Kept (fun j => j = r) w W ∧ (Instr.entry (.pointer (some ⟨r, 0, none⟩))).run P W = .ok (.tuple #[e.key, e.val]) W := by
  have hbr : b ≠ r := fun q => by have h1 := h.map.at_; have h2 := h.it; rw [q, h2] at h1; cases h1
  rcases run_next_at (P := P) w ty r b clock clock seen es clock h.it h.map.at_ h.map.st.1 (Nat.le_refl _) with ⟨h1, h2⟩ | ⟨e, he, w1, hw, h2⟩
  · exact .inl ⟨List.eq_nil_of_length_eq_zero (by simpa using h1), h2⟩
  · refine .inr ⟨e, he, _, h2, ?_⟩
    have kw : Kept (fun j => j = r) w w1 := by
      rcases hw with rfl | rfl
      · exact Kept.refl _ _
      · exact (Kept.refl _ w).drew
    have hr1 : w1.heap[r]? = some (.mapIter (some b) clock seen clock) := by rcases hw with rfl | rfl <;> exact h.it
    have ks : Kept (fun j => j = r) w (w1.putObj r (.mapIter (some b) clock (seen.push e.born) clock)) := kw.putObj r _ (fun _ => rfl)
    have hI : IterA d (w1.putObj r (.mapIter (some b) clock (seen.push e.born) clock)) r b es clock (seen.push e.born) := ⟨h.map.kept ks hbr, putObj_at hr1 _⟩
    have hee : e ∈ es.toList := by
      unfold leftOf at he
      simp at he
      simpa using he.1
    exact ⟨hI, ks, run_entry_at _ r b clock seen es clock e hI.it hI.map.at_ hee h.map.st.2.1⟩
theorem left_nil (es : Array MapEntry) : leftOf es #[] = es := by
  unfold leftOf
  exact Array.filter_eq_self.2 (fun x _ => by simp)
theorem left_push {es : Array MapEntry} {seen : Array Nat} {e : MapEntry} (hn : (es.toList.map (·.born)).Nodup) (he : e ∈ (leftOf es seen).toList) : (leftOf es seen).toList.Perm (e :: (leftOf es (seen.push e.born)).toList) := by
  have h1 : (leftOf es (seen.push e.born)).toList = (leftOf es seen).toList.filter (fun x => x.born != e.born) := by
    unfold leftOf
    rw [Array.toList_filter, Array.toList_filter, List.filter_filter]
    refine List.filter_congr (fun x _ => ?_)
    by_cases q : x.born = e.born <;> simp [q]
  rw [h1]
  have hn2 : ((leftOf es seen).toList.map (·.born)).Nodup := by
    unfold leftOf
    rw [Array.toList_filter]
    exact hn.sublist (List.filter_sublist.map _)
  generalize (leftOf es seen).toList = l at *
  clear h1
  induction l with
  | nil => cases he
  | cons x l ih =>
    rw [List.map_cons, List.nodup_cons] at hn2
    rcases List.mem_cons.1 he with rfl | he
    · have : l.filter (fun x => x.born != e.born) = l := List.filter_eq_self.2 (fun y hy => by
        have : y.born ≠ e.born := fun q => hn2.1 (by rw [← q]; exact List.mem_map.2 ⟨y, hy, rfl⟩)
        simpa using this)
      rw [List.filter_cons_of_neg (by simp), this]
    · have : x.born ≠ e.born := fun q => hn2.1 (by rw [q]; exact List.mem_map.2 ⟨e, he, rfl⟩)
      rw [List.filter_cons_of_pos (by simpa using this)]
      exact ((ih he hn2.2).cons x).trans (List.Perm.swap _ _ _)
end
end Go.Proofs.YthkeigljiinlbaaGreat

/- row.Pick of no column; row.Key. -/
namespace Go.Proofs.YthkeigljiinlbaaGreat
open Go.RowKit

set_option maxRecDepth 100000 in
theorem conv_bytes {w : World} {b off : Nat} {cap : Nat} (s : List UInt8) (hc : ∀ j x, s[j]? = some x → w.cell? ⟨b, off + j, none⟩ = some (.int .u8 (x.toNat : Int))) :
    (convert 136 9 (.slice (some ⟨b, off, none⟩) s.length cap)).run Tryz.prog w = .ok (.string ⟨⟨s⟩⟩) w := by
  refine run_convert_bytes_back (P := Tryz.prog) w 136 9 5 ⟨b, off, none⟩ cap s Tryz.underlying136 Tryz.underlying5 Tryz.underlying9 (fun j hj => ?_)
  rw [addr_add]
  exact hc j _ (List.getElem?_eq_getElem hj)

section
variable {P : Program} {w0 w W : World} {T : TypeId} {v : Value} {L M : List UInt8}
/-- Other bytes are appended to a new row of bytes. -/
theorem New.catB (t ty : TypeId) (ht : P.underlying t = some (.slice T)) (hi : (P.info? T).map (fun i => (i.zero, i.size, i.bytes)) = some (some (.int .u8 0), 1, 1)) (h : New encB 1 T w0 w v L) (k : Kept (fun _ => False) w W)
    {u : Value} (hu : Row encB 1 T W u M) (hb : L.length + M.length ≤ 140737488355328) :
    ∃ A2 c2 A' c' w', u = .slice A2 M.length c2 ∧ Hid ((Builtin.append_ #[t, t] ty #[v, .slice A2 M.length c2]).run P W = .ok (.slice A' (L.length + M.length) c') w') ∧ Hid (New encB 1 T w0 w' (.slice A' (L.length + M.length) c') (L ++ M)) ∧ Hid (Kept (fun j => v.ownBlock = some j) W w') := by
  obtain ⟨A2, c2, hv, hA, hs⟩ := hu.asSrc encB_len
  obtain ⟨A', c', w2, hrun, h1, h2, h3⟩ := app_src (P := P) (enc := encB) (sz := 1) (M := M) (N := fun _ => False) t ty (.int .u8 0) 1 ht hi rfl (by decide) encB_len encB_one (h.row.same k) A2 c2 hA hs (by simp only [maxLen]; omega) (by omega)
  rw [List.length_append] at h1
  exact ⟨A2, c2, A', c', w2, hv, hrun, h.app k ⟨h1, h2, h3⟩, h2⟩
theorem New.lit1 (w : World) {n : Int} (c : UInt8) (hc : (c.toNat : Int) = n) : New encB 1 T w (w.alloc (.cells #[.int .u8 n] T)) (.slice (some ⟨w.heap.size, 0, none⟩) 1 1) [c] := by
  subst hc
  exact ⟨World.ownsRow_lit (e := T) (size := 1) (base := 0) w #[.int .u8 (c.toNat : Int)] 1 (Nat.zero_le _) (by simp [maxLen]) (by simp), fun j hj => by injection hj with hj; simp only at hj; omega, (Kept.refl _ w).alloc _⟩
end

set_option maxRecDepth 100000 in
theorem New.conv {w0 w : World} {A : Option Addr} {n c : Nat} {M : List UInt8} (h : New encB 1 5 w0 w (.slice A n c) M) (hn : n = M.length) :
    (convert 136 9 (.slice A n c)).run Tryz.prog w = .ok (.string ⟨⟨M⟩⟩) w := by
  subst hn
  cases M with
  | nil => exact run_convert_bytes_zero (P := Tryz.prog) w 136 5 Tryz.underlying136 Tryz.underlying5 A c 9 Tryz.underlying9
  | cons x r =>
    obtain ⟨A2, c2, hv, _, _, hs⟩ := h.row.src encB_len (fun _ => False) (fun _ _ q => q)
    injection hv with h1 _ h2
    subst h1 h2
    obtain ⟨b, off, rfl, _, _⟩ := hs 0 x rfl
    refine conv_bytes (x :: r) (fun j y hy => ?_)
    obtain ⟨b2, off2, e, _, hc⟩ := hs j y hy
    injection e with e
    injection e with e1 e2
    subst e1 e2
    have := hc 0 _ rfl
    rw [Nat.mul_one, Nat.add_zero] at this
    exact this

set_option maxRecDepth 100000 in
theorem pick0_any (r : List Wd) (A : Option Addr) (c : Nat) (w : World) (hs : Src encW 3 w (fun _ => False) A r) (hr : rowB r = true) (hl : r.length ≤ 1048576) :
    Calls Tryz.prog 35 #[.slice A r.length c, .slice none 0 0] w fun e w' => ∃ b' c', e = .returned (.tuple #[.slice (some ⟨b', 0, none⟩) 0 c', .int .i64 0]) ∧ New encW 3 48 w w' (.slice (some ⟨b', 0, none⟩) 0 c') [] := by
  have hm := fun wx hx => rowMay_any r A c wx hx (by unfold maxLen; omega)
  rw [hr] at hm
  obtain ⟨C, hmk, hnw⟩ := make_any (P := Tryz.prog) 43 48 (.agg #[.int .i64 0, .int .i64 0, .string ByteArray.empty]) 3 32 Tryz.underlying43 (by kernel_rfl) 0 0 rfl (by decide) (by decide)
  go_enter Tryz.func35, Tryz.ntmps35
  go_wp2_with fail
  refine (hm _ hs).mono ?_
  rintro e w1 ⟨rfl, k1⟩
  have HN := Lib.hid ((hnw Wd encW w1).from k1)
  clear hnw
  go_wp2_with fail
  go_loopg [6, 22] 0 (fun k ov iv wr => iv = .int .i64 0 ∧ ov = .slice (some ⟨w1.heap.size, 0, none⟩) 0 0 ∧ wr = w1.alloc (.cells C 48))
  case atStart => exact ⟨rfl, rfl, rfl⟩
  case round =>
    obtain ⟨rfl, rfl, rfl⟩ := hrel
    go_wp2_with fail
    go_ret2
    exact ⟨_, _, rfl, HN.out⟩

set_option maxRecDepth 100000 in
theorem nbytes_any (n : Int) (w : World) (h : I64 n) : Calls Tryz.prog 196 #[.int .i64 n] w fun e w' => ∃ v L, e = .returned v ∧ L.length ≤ 11 ∧ New encB 1 5 w w' v L := by
  have hi := fun wx => int_any n wx h
  have hUl : (Lib.uvarint (zig n)).length ≤ 10 := Lib.uvarint_length64 (Lib.zigzag_lt h.1 h.2)
  generalize Lib.uvarint (zig n) = U at *
  have k0 := (Kept.refl (fun _ => False) w).alloc (.cells #[.int .u8 1] 5)
  have hn1 := New.lit1 (T := 5) w (n := 1) 1 rfl
  go_enter Tryz.func196, Tryz.ntmps196
  go_wp2_with fail
  refine (hi _).mono ?_
  rintro e w1 ⟨v1, rfl, hn2⟩
  obtain ⟨A2, c2, A', c', w2, rfl, hrun, hn3, _⟩ := New.catB (P := Tryz.prog) 136 136 Tryz.underlying136 (by kernel_rfl) hn1 hn2.kept hn2.row (by simp only [List.length_cons, List.length_nil]; omega)
  simp only [List.length_cons, List.length_nil] at hrun
  have tok := True.intro
  go_wp2_with (at_builtin; have _t := tok; refine wpList_run rfl _ _ _ rfl rfl rfl hrun ?_; clear tok)
  go_ret
  exact ⟨_, _, rfl, by simp only [List.length_append, List.length_cons, List.length_nil]; omega, hn3.out⟩

set_option maxRecDepth 100000 in
theorem vbytes_any (n : Int) (w : World) (h : I64 n) : Calls Tryz.prog 107 #[.agg #[.int .i64 1, .int .i64 n, .string ⟨⟨[]⟩⟩]] w fun e w' => ∃ v L, e = .returned v ∧ L.length ≤ 11 ∧ New encB 1 5 w w' v L := by
  have ho : ∀ wx, Calls Tryz.prog 101 #[.agg #[.int .i64 1, .int .i64 n, .string ⟨⟨[]⟩⟩]] wx fun e w' => e = .returned (.tuple #[.iface 186 (.int .i64 n), .bool true]) ∧ Kept (fun _ => False) wx w' := fun wx => by
    have h0 := of_any ⟨1, n, []⟩ wx
    have e1 : thingV ⟨1, n, []⟩ = .iface 186 (.int .i64 n) := by unfold thingV; rw [if_pos ⟨rfl, rfl⟩]
    have e2 : valB ⟨1, n, []⟩ = true := by unfold valB; simp
    rw [e1, e2] at h0
    exact h0
  have hb := fun wx => nbytes_any n wx h
  have hmth : ∀ (s : Int) (W : World), (method 164 186 (.int .i64 s) "rescind/value.bytes").run Tryz.prog W = .ok (196, .int .i64 s) W := fun _ _ => by kernel_rfl
  go_enter Tryz.func107, Tryz.ntmps107
  go_wp2_with fail
  refine (ho _).mono ?_
  rintro e w' ⟨rfl, k⟩
  go_wp2_with fail
  refine (hb _).mono ?_
  rintro e w2 ⟨v, L, rfl, hl, hn⟩
  go_wp2_with fail
  go_ret
  exact ⟨v, L, rfl, hl, hn.from (((Kept.refl _ w).alloc _).trans k)⟩

set_option maxRecDepth 100000 in
theorem rbytes0_any (A : Option Addr) (c : Nat) (w : World) : Calls Tryz.prog 75 #[.slice A 0 c] w fun e w' => ∃ v, e = .returned v ∧ New encB 1 5 w w' v [0] := by
  have hs : ∀ wx, Src encW 3 wx (fun _ => False) A ([] : List Wd) := fun wx i x hx => by cases hx
  have hm := fun wx hx => rowMay_any [] A c wx hx (by unfold maxLen; simp)
  rw [show rowB [] = true from rfl, show ([] : List Wd).length = 0 from rfl] at hm
  go_enter Tryz.func75, Tryz.ntmps75
  go_wp2_with fail
  refine (hm _ (hs _)).mono ?_
  rintro e w1 ⟨rfl, k1⟩
  have hn1 := New.lit1 (T := 5) w1 (n := 0) 0 rfl
  have HN := Lib.hid (hn1.from k1)
  clear hn1
  go_wp2_with fail
  go_loopg [3, 15] 0 (fun k ov iv wr => iv = .int .i64 0 ∧ ov = .slice (some ⟨w1.heap.size, 0, none⟩) 1 1 ∧ wr = w1.alloc (.cells #[.int .u8 0] 5))
  case atStart => exact ⟨rfl, rfl, rfl⟩
  case round =>
    obtain ⟨rfl, rfl, rfl⟩ := hrel
    go_wp2_with fail
    go_ret
    exact ⟨_, rfl, HN.out⟩
set_option maxRecDepth 100000 in
theorem key0_any (A : Option Addr) (c : Nat) (w : World) : Calls Tryz.prog 36 #[.slice A 0 c] w fun e w' => e = .returned (.string ⟨⟨[0]⟩⟩) ∧ Kept (fun _ => False) w w' := by
  have hb := fun wx => rbytes0_any A c wx
  go_enter Tryz.func36, Tryz.ntmps36
  go_wp2_with fail
  refine (hb _).mono ?_
  rintro e w1 ⟨v, rfl, hn⟩
  have k1 := hn.kept
  obtain ⟨A1, c1, rfl, _, _⟩ := hn.shape
  have hcv : (convert 136 9 (.slice A1 1 c1)).run Tryz.prog w1 = .ok (.string ⟨⟨[0]⟩⟩) w1 := hn.conv rfl
  go_wp2_with fail
  go_ret
  exact ⟨rfl, k1⟩

set_option maxHeartbeats 1000000 in
set_option maxRecDepth 100000 in
theorem rbytes1_any (n : Int) (A : Option Addr) (c : Nat) (w : World) (h : I64 n) (hs : Src encW 3 w (fun _ => False) A [⟨1, n, []⟩]) : Calls Tryz.prog 75 #[.slice A 1 c] w fun e w' => ∃ v L, e = .returned v ∧ New encB 1 5 w w' v L := by
  have hm := fun wx hx => rowMay_any [⟨1, n, []⟩] A c wx hx (by unfold maxLen; simp)
  rw [show rowB [⟨1, n, []⟩] = true from One.may ⟨n, rfl⟩, show ([⟨1, n, []⟩] : List Wd).length = 1 from rfl] at hm
  have hv := fun wx => vbytes_any n wx h
  clear h
  go_enter Tryz.func75, Tryz.ntmps75
  go_wp2_with fail
  refine (hm _ hs).mono ?_
  rintro e w1 ⟨rfl, k1⟩
  have hn1 := New.lit1 (T := 5) w1 (n := 1) 1 rfl
  have HN := Lib.hid (hn1.from k1)
  clear hn1
  go_wp2_with fail
  go_loopg [3, 15] 1 (fun k ov iv wr => ∃ (i : Nat) (L : List UInt8), iv = .int .i64 i ∧ i + k = 1 ∧ L.length ≤ 1 + 11 * i ∧ New encB 1 5 w wr ov L)
  case atStart => exact ⟨0, [1], rfl, rfl, by decide, HN.out⟩
  case round =>
    obtain ⟨i, L, rfl, hk, hll, hn⟩ := hrel
    obtain ⟨Ao, co, rfl, _, _⟩ := hn.shape
    rcases (show i = 0 ∨ i = 1 by omega) with rfl | rfl
    · obtain ⟨b, off, rfl, _, x0, x1, x2⟩ := Src.cells3 (hs.same hn.kept) (i := 0) (o := ⟨1, n, []⟩) rfl
      simp only [Nat.zero_mul, Nat.add_zero] at x0 x1 x2
      have kal := (Kept.refl (fun _ => False) wr).alloc (.cells #[.int .i64 1, .int .i64 n, .string ⟨⟨[]⟩⟩] 48)
      have HN2 := Lib.hid hn
      obtain ⟨NN, hNN⟩ : ∃ NN, L.length = NN := ⟨_, rfl⟩
      have HNN := Lib.hid hNN
      rw [hNN]
      clear hNN hn
      go_wp2_with fail
      refine (hv _).mono ?_
      rintro e w2 ⟨v2, L2, rfl, hl2, hn2⟩
      obtain ⟨A2, c2, A', c', w3, rfl, hrun, hn3, _⟩ := New.catB (P := Tryz.prog) 136 136 Tryz.underlying136 (by kernel_rfl) HN2.out (kal.trans hn2.kept) hn2.row (by omega)
      rw [HNN.out] at hrun hn3
      obtain ⟨N2, hN2⟩ : ∃ N2, L2.length = N2 := ⟨_, rfl⟩
      rw [hN2] at hrun hn3
      have HN3 := Lib.hid hN2
      rw [hN2]
      clear hN2
      have tok := True.intro
      go_wp2_with (at_builtin; have _t := tok; refine wpList_run rfl _ _ _ rfl rfl rfl hrun ?_; clear tok)
      go_roundg 0
      case measure => omega
      case rel => exact ⟨1, L ++ L2, rfl, rfl, by rw [List.length_append]; omega, hn3.out⟩
    · go_wp2_with fail
      go_ret
      exact ⟨_, _, rfl, hn⟩
/-- A row's key, whatever it be. -/
theorem key1_any (n : Int) (A : Option Addr) (c : Nat) (w : World) (h : I64 n) (hs : Src encW 3 w (fun _ => False) A [⟨1, n, []⟩]) : Calls Tryz.prog 36 #[.slice A 1 c] w fun e w' => ∃ s, e = .returned (.string s) ∧ Kept (fun _ => False) w w' := by
  have hb := fun wx hx => rbytes1_any n A c wx h hx
  clear h
  go_enter Tryz.func36, Tryz.ntmps36
  go_wp2_with fail
  refine (hb _ hs).mono ?_
  rintro e w1 ⟨v, L, rfl, hn⟩
  have k1 := hn.kept
  obtain ⟨A1, c1, rfl, _, _⟩ := hn.shape
  have hcv := hn.conv rfl
  clear hn
  go_wp2_with fail
  go_ret
  exact ⟨_, rfl, k1⟩
end Go.Proofs.YthkeigljiinlbaaGreat
