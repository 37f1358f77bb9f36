/- strings.Builder. -/
import Derived.Test.YtballmombklalaaGreatM22
import Derived.Lib.Builder
import Derived.Lib.UnsafeStr
import Derived.Laws.Externs
namespace Go.Proofs.YtballmombklalaaGreat
open Go.RowKit

/-- The builder in block b holds these bytes; p is its own address, or none. -/
def BPp (B : Nat) (w : World) (b : Nat) (p : Value) (l : List UInt8) : Prop :=
  ∃ v, w.heap[b]? = some (.cells #[p, v] 135 (0, 0)) ∧ Row encB 1 5 w v l ∧ (∀ j, v.ownBlock = some j → B ≤ j ∧ j ≠ b) ∧ B ≤ b
def BP (B : Nat) (w : World) (b : Nat) (l : List UInt8) : Prop := BPp B w b (.pointer none) l ∨ BPp B w b (.pointer (some ⟨b, 0, none⟩)) l
theorem BPp.same {B b : Nat} {w w' : World} {p : Value} {l : List UInt8} {S : Nat → Prop} (h : BPp B w b p l) (k : Kept S w w') (hS : ∀ j, B ≤ j → ¬ S j) : BPp B w' b p l := by
  obtain ⟨v, h1, h2, h3, h4⟩ := h
  exact ⟨v, k.heap h1 (hS b h4), h2.kept k (fun g hg => hS g (h3 g hg).1), h3, h4⟩
theorem BP.same {B b : Nat} {w w' : World} {l : List UInt8} {S : Nat → Prop} (h : BP B w b l) (k : Kept S w w') (hS : ∀ j, B ≤ j → ¬ S j) : BP B w' b l := by
  rcases h with h | h
  · exact .inl (h.same k hS)
  · exact .inr (h.same k hS)

/-- Rows of bytes. -/
def ByteAt (w : World) (j : Nat) : Prop := ∃ cs f, w.heap[j]? = some (.cells cs 5 f)
/-- What a builder's method may write. -/
def MayW (B b : Nat) (w : World) (j : Nat) : Prop := j = b ∨ (B ≤ j ∧ ByteAt w j)

set_option maxHeartbeats 1000000 in
set_option maxRecDepth 100000 in
theorem check_any (B b : Nat) (l : List UInt8) (w : World) (h : BP B w b l) :
    Calls Tryz.prog 103 #[.pointer (some ⟨b, 0, none⟩)] w fun e w' => e = .returned (.tuple #[]) ∧ BPp B w' b (.pointer (some ⟨b, 0, none⟩)) l ∧ Kept (fun j => j = b) w w' := by
  rcases h with ⟨v, h1, h2, h3, h4⟩ | ⟨v, h1, h2, h3, h4⟩
  · have c0 := cell_of_row w b 0 _ _ _ h1
    simp only [List.getElem?_toArray, List.getElem?_cons_zero] at c0
    have f0 := frozen_of h1 0
    have hsh : w.shape? b = some (135, 2) := by simp [World.shape?, h1]
    obtain ⟨j, hj, hjs⟩ := Option.map_eq_some_iff.1 (show (Tryz.prog.info? 135).map (·.size) = some 2 by kernel_rfl)
    have r1 : (convert 133 202 (.pointer (some ⟨b, 0, none⟩))).run Tryz.prog w = .ok (.pointer (some ⟨b, 0, none⟩)) w :=
      Lib.run_to_unsafe w ⟨b, 0, none⟩ (by kernel_rfl) (by kernel_rfl) hj (by rw [hjs]; decide) hsh (Nat.zero_lt_succ 1)
    have r2 : (convert 202 133 (.pointer (some ⟨b, 0, none⟩))).run Tryz.prog w = .ok (.pointer (some ⟨b, 0, none⟩)) w :=
      Lib.run_from_unsafe w ⟨b, 0, none⟩ (by kernel_rfl) (by kernel_rfl) hj hsh (by kernel_rfl)
    have r3 : (callFunc 125 #[.pointer (some ⟨b, 0, none⟩)]).run Tryz.prog w = .ok (.value (.pointer (some ⟨b, 0, none⟩))) w := by
      rw [run_callFunc_extern Tryz.func125 (by kernel_rfl) (by kernel_rfl) (by kernel_rfl) (e := Extern.AbiNoEscape.same) (by kernel_rfl), Lib.run_noEscape]
      rfl
    clear hjs
    go_enter Tryz.func103, Tryz.ntmps103
    go_wp2_with fail
    go_end0
    refine ⟨rfl, ⟨v, blk_set h1 0 _, ?_, h3, h4⟩, (Kept.refl (fun j => j = b) w).setCell (p := ⟨b, 0, none⟩) (fun _ => rfl) _⟩
    exact Row.kept (S := fun j => j = b) h2 ((Kept.refl (fun j => j = b) w).setCell (p := ⟨b, 0, none⟩) (fun _ => rfl) _) (fun g hg q => (h3 g hg).2 q)
  · have c0 := cell_of_row w b 0 _ _ _ h1
    simp only [List.getElem?_toArray, List.getElem?_cons_zero] at c0
    obtain ⟨j, hj, _⟩ := Option.map_eq_some_iff.1 (show (Tryz.prog.info? 135).map (·.size) = some 2 by kernel_rfl)
    have hne := Lib.run_neq_ptr_same (P := Tryz.prog) w (tp := 133) ⟨b, 0, none⟩ Tryz.underlying133 hj
    go_enter Tryz.func103, Tryz.ntmps103
    go_wp2_with fail
    go_end0
    exact ⟨rfl, ⟨v, h1, h2, h3, h4⟩, Kept.refl _ w⟩

theorem BPp.cells {B b : Nat} {w : World} {p : Value} {l : List UInt8} (h : BPp B w b p l) : ∃ v, w.cell? ⟨b, 1, none⟩ = some v ∧ Row encB 1 5 w v l ∧ (∀ j, v.ownBlock = some j → B ≤ j ∧ j ≠ b) ∧ B ≤ b ∧ b < w.heap.size ∧ w.heap[b]? = some (.cells #[p, v] 135 (0, 0)) := by
  obtain ⟨v, h1, h2, h3, h4⟩ := h
  have c0 := cell_of_row w b 1 _ _ _ h1
  simp only [List.getElem?_toArray, List.getElem?_cons_zero, List.getElem?_cons_succ] at c0
  exact ⟨v, c0, h2, h3, h4, (Array.getElem?_eq_some_iff.1 h1).1, h1⟩
theorem mayw_ge {B b i : Nat} {w : World} (hb : B ≤ b) (q : MayW B b w i) : B ≤ i := by
  rcases q with rfl | q
  · exact hb
  · exact q.1
theorem mayw {B b i : Nat} {w w1 : World} {v : Value} {l : List UInt8} (k1 : Kept (fun j => j = b) w w1) (hr : Row encB 1 5 w1 v l) (ho : ∀ j, v.ownBlock = some j → B ≤ j ∧ j ≠ b) (q : v.ownBlock = some i) (hi : i < w.heap.size) : MayW B b w i := by
  rcases hr.2 with ⟨rfl, _⟩ | ⟨g, cap, cur, rfl, _, hg, _⟩
  · cases q
  · injection q with q
    subst q
    refine .inr ⟨(ho g rfl).1, cur, (0, 0), ?_⟩
    rw [← k1.block g hi (ho g rfl).2]
    exact hg
theorem BPp.put {B b : Nat} {w' : World} {p v u : Value} {l' : List UInt8} (h1 : w'.heap[b]? = some (.cells #[p, v] 135 (0, 0))) (h2 : Row encB 1 5 w' u l') (h3 : ∀ j, u.ownBlock = some j → B ≤ j ∧ j ≠ b) (h4 : B ≤ b) :
    BPp B (w'.setCell ⟨b, 1, none⟩ u) b p l' :=
  ⟨u, blk_set h1 1 u, Row.kept (S := fun j => j = b) h2 ((Kept.refl (fun j => j = b) w').setCell (p := ⟨b, 1, none⟩) (fun _ => rfl) _) (fun g hg q => (h3 g hg).2 q), h3, h4⟩

set_option maxHeartbeats 1000000 in
set_option maxRecDepth 100000 in
theorem wstr_any (B b : Nat) (l s : List UInt8) (w : World) (h : BP B w b l) (hl : l.length + s.length ≤ 140737488355328) :
    Calls Tryz.prog 61 #[.pointer (some ⟨b, 0, none⟩), .string ⟨⟨s⟩⟩] w fun e w' => (∃ n, e = .returned (.tuple #[.int .i64 n, .nilIface])) ∧ BP B w' b (l ++ s) ∧ Kept (MayW B b w) w w' := by
  have hck := check_any B b l w h
  go_enter Tryz.func61, Tryz.ntmps61
  go_wp2_with fail
  refine hck.mono ?_
  rintro e w1 ⟨rfl, hp, k1⟩
  obtain ⟨v, c1, hr, ho, hB, hlt, hb⟩ := hp.cells
  obtain ⟨i0, hi1, hi2, hi3, hi4⟩ := info_parts (P := Tryz.prog) (e := 5) (z := .int .u8 0) (size := 1) (bytes := 1) (by kernel_rfl)
  have hsz : (⟨⟨s⟩⟩ : ByteArray).size = s.length := rfl
  obtain ⟨v', w2, hrun0, hr1, hr2, hr3⟩ := Lib.run_append_own_string (P := Tryz.prog) w1 B 34 9 34 5 i0 Tryz.underlying34 Tryz.underlying9 hi1 hi2 hi3 hi4 _ _ _ (owns_from hr (fun j hj => (ho j hj).1)) ⟨⟨s⟩⟩ (by rw [hsz]; simp only [maxLen]; omega) (by rw [hsz]; exact hl) (by omega)
  rw [hsz, str_cells, ← cells_app] at hr1
  obtain ⟨hr4, hr5⟩ := owns_zero hr1
  have hrow : Row encB 1 5 w2 v' (l ++ s) := by unfold Row; rw [List.length_append]; exact hr4
  obtain ⟨A', c', rfl, _, _⟩ := hrow.shape
  have k2 : Kept (fun j => v.ownBlock = some j) w1 w2 := (Kept.refl _ w1).grown hr2 (fun k hk _ => hk)
  have hb2 : w2.heap[b]? = some (.cells #[.pointer (some ⟨b, 0, none⟩), v] 135 (0, 0)) := by
    rw [hr2.block b hlt (fun q => (ho b q.symm).2 rfl)]; exact hb
  have hoth := hrow.other hb2 (by decide)
  have c2 := cell_of_row w2 b 1 _ _ _ hb2
  simp only [List.getElem?_toArray, List.getElem?_cons_zero, List.getElem?_cons_succ] at c2
  have f2 := frozen_of hb2 1
  have hrun : Hid _ := hrun0
  have hput := BPp.put hb2 hrow (fun j hj => ⟨hr5 j hj, fun q => hoth (by rw [hj, q])⟩) hB
  have hk3 := (k1.trans' k2 (fun i _ q => show MayW B b w i from .inl q) (fun i hi q => mayw k1 hr ho q hi)).setCell (p := ⟨b, 1, none⟩) (fun _ => .inl rfl) (.slice A' (l ++ s).length c')
  rw [List.length_append] at hput hk3
  clear hr1 hr2 hr3 hr4 hr5 hrow hrun0 hi1 hi2 hi3 hi4 hr hp hsz hck
  go_wp2_with (at_builtin; refine wpList_run2 rfl _ _ _ _ rfl rfl rfl hrun ?_)
  go_ret2
  exact ⟨⟨_, rfl⟩, .inr hput, hk3⟩

set_option maxHeartbeats 1000000 in
set_option maxRecDepth 100000 in
theorem wbyte_any (B b : Nat) (l : List UInt8) (c : UInt8) (w : World) (h : BP B w b l) (hl : l.length + 1 ≤ 140737488355328) :
    Calls Tryz.prog 60 #[.pointer (some ⟨b, 0, none⟩), .int .u8 (c.toNat : Int)] w fun e w' => e = .returned .nilIface ∧ BP B w' b (l ++ [c]) ∧ Kept (MayW B b w) w w' := by
  have hck := check_any B b l w h
  go_enter Tryz.func60, Tryz.ntmps60
  go_wp2_with fail
  refine hck.mono ?_
  rintro e w1 ⟨rfl, hp, k1⟩
  obtain ⟨v, c1, hr, ho, hB, hlt, hb⟩ := hp.cells
  have ka := (Kept.refl (fun _ => False) w1).alloc (.cells #[.int .u8 (c.toNat : Int)] 5)
  have hal := heap_alloc_new w1 (.cells #[.int .u8 (c.toNat : Int)] 5)
  have hss : w1.heap.size ≤ (w1.alloc (.cells #[.int .u8 (c.toNat : Int)] 5)).heap.size := ka.size
  obtain ⟨A', c', w2, hrun0, hr4, k20, hr5⟩ := app_src (P := Tryz.prog) (enc := encB) (sz := 1) (M := [c]) (N := fun _ => False) 34 34 (.int .u8 0) 1 Tryz.underlying34 (by kernel_rfl) rfl (by decide) encB_len encB_one (hr.same ka) (some ⟨w1.heap.size, 0, none⟩) 1 (by simp) (Src.many encB_len hal (fun q => q)) (by simp only [maxLen, List.length_singleton]; omega) (by simp only [List.length_singleton]; omega)
  have hb1 := ka.heap hb (fun q => q)
  have hb2 := k20.heap hb1 (fun q => (ho b q).2 rfl)
  rw [List.length_append] at hr4
  have hoth := hr4.other hb2 (by decide)
  have c2 := cell_of_row w2 b 1 _ _ _ hb2
  simp only [List.getElem?_toArray, List.getElem?_cons_zero, List.getElem?_cons_succ] at c2
  have f2 := frozen_of hb2 1
  have hrun : Hid _ := hrun0
  have hput := BPp.put hb2 hr4 (fun j hj => ⟨by
    rcases hr5 j hj with q | q
    · exact (ho j q).1
    · omega, fun q => hoth (by rw [hj, q])⟩) hB
  have hk3 := ((k1.trans (ka.mono (fun _ _ q => q.elim))).trans' k20 (fun i _ q => show MayW B b w i from .inl q) (fun i hi q => mayw k1 hr ho q hi)).setCell (p := ⟨b, 1, none⟩) (fun _ => .inl rfl) (.slice A' (l.length + [c].length) c')
  clear hr4 hr5 hrun0 hr hp hck hal hss k20
  go_wp2_with (at_builtin; refine wpList_run2 rfl _ _ _ _ rfl rfl rfl hrun ?_)
  go_ret
  exact ⟨rfl, .inr hput, hk3⟩

set_option maxHeartbeats 1000000 in
set_option maxRecDepth 100000 in
theorem bstr_any (B b : Nat) (l : List UInt8) (w : World) (h : BP B w b l) (h0 : l ≠ []) (hlm : l.length ≤ 140737488355328) :
    Calls Tryz.prog 62 #[.pointer (some ⟨b, 0, none⟩)] w fun e w' => e = .returned (.string ⟨⟨l⟩⟩) ∧ Kept (fun j => B ≤ j) w w' := by
  obtain ⟨p, hp⟩ : ∃ p, BPp B w b p l := by
    rcases h with h | h
    · exact ⟨_, h⟩
    · exact ⟨_, h⟩
  obtain ⟨v, hb, hr, ho, hB⟩ := hp
  have hl0 : l.length ≠ 0 := by simpa using h0
  obtain ⟨g, cap, cur, rfl, hg, hnc, hcm, hcs, htake⟩ : ∃ g cap cur, v = .slice (some ⟨g, 0, none⟩) l.length cap ∧ w.heap[g]? = some (.cells cur 5 (0, 0)) ∧ l.length ≤ cap ∧ cap ≤ maxLen ∧ cur.size = cap * 1 ∧ cur.toList.take (l.length * 1) = cellsOf encB l := by
    rcases hr.2 with ⟨_, hz⟩ | ⟨g, cap, cur, hv, _, r⟩
    · exact absurd hz hl0
    · exact ⟨g, cap, cur, hv, r⟩
  have c1 : w.drew.cell? ⟨b, 1, none⟩ = some (.slice (some ⟨g, 0, none⟩) l.length cap) := by
    have := cell_of_row w.drew b 1 _ _ _ hb
    rw [this]; rfl
  have hSD : (Builtin.unsafeSliceData_ #[34] 179 #[.slice (some ⟨g, 0, none⟩) l.length cap]).run Tryz.prog w.drew = .ok (.pointer (some ⟨g, 0, none⟩)) w.drew :=
    Lib.run_unsafeSliceData_row _ _ _ _ _ _ (by omega)
  have hUS : (Builtin.unsafeString_ #[179, 3] 9 #[.pointer (some ⟨g, 0, none⟩), .int .i64 l.length]).run Tryz.prog w.drew = .ok (.string ⟨l.toArray⟩) (w.drew.freeze ⟨g, 0, none⟩ l.length) := by
    refine Lib.run_unsafeString_row w.drew 179 3 9 5 (by kernel_rfl) (by kernel_rfl) g cur.size (by have hg' : w.drew.heap[g]? = some (.cells cur 5 (0, 0)) := hg; simp [World.shape?, hg']) l h0 (by omega) (by omega) ?_
    intro j x hx
    have h1 := cells_get encB 1 encB_len l j x 0 (.int .u8 (x.toNat : Int)) hx rfl
    rw [Nat.mul_one, Nat.add_zero, ← htake] at h1
    rw [addr_add, Nat.zero_add]
    have hc : w.drew.cell? ⟨g, j, none⟩ = cur[j]? := cell_of_row w.drew g j _ _ _ hg
    rw [hc]
    rw [List.getElem?_take] at h1
    split at h1
    · simpa using h1
    · cases h1
  have hkf : Kept (fun j => B ≤ j) w (w.drew.freeze ⟨g, 0, none⟩ l.length) := by
    unfold World.freeze
    rw [if_neg hl0]
    refine ⟨rfl, rfl, rfl, by simp, fun k hk hn => ?_⟩
    have hne : g ≠ k := fun q => by subst q; exact hn (ho g rfl).1
    show (w.heap.modify g _)[k]? = _
    rw [Array.getElem?_modify, if_neg hne]
  obtain ⟨n, hn⟩ : ∃ n, l.length = n := ⟨_, rfl⟩
  rw [hn] at c1 hSD hUS hkf
  obtain ⟨V, hV⟩ : ∃ V, w.drew.freeze ⟨g, 0, none⟩ n = V := ⟨_, rfl⟩
  rw [hV] at hUS hkf
  clear hV hn hr hg htake hcs hb
  go_enter Tryz.func62, Tryz.ntmps62
  go_wp2_with fail
  go_region
  all_goals (go_wp2_with fail; go_ret; exact ⟨rfl, hkf⟩)

/-- Tokens as a text. -/
def joinS : List Tok → List UInt8
  | [] => []
  | t :: r => t.t ++ r.flatMap (fun x => 32 :: x.t)
theorem join_take (T : List Tok) (n : Nat) (h : n < T.length) : joinS (T.take (n + 1)) = joinS (T.take n) ++ (if 0 < n then [32] else []) ++ T[n].t := by
  cases T with
  | nil => simp at h
  | cons t r =>
    cases n with
    | zero => simp [joinS]
    | succ n =>
      have h' : n < r.length := by simpa using h
      have e := List.take_succ_eq_append_getElem h'
      show joinS (t :: r.take (n + 1)) = joinS (t :: r.take n) ++ _ ++ r[n].t
      rw [e]
      simp only [joinS, List.flatMap_append, List.flatMap_cons, List.flatMap_nil, List.append_nil, List.append_assoc, Nat.zero_lt_succ, if_true, List.cons_append, List.nil_append]
theorem join_le (T : List Tok) (n : Nat) : (joinS (T.take n)).length ≤ (joinS T).length := by
  cases T with
  | nil => simp
  | cons t r =>
    cases n with
    | zero => simp [joinS]
    | succ n =>
      simp only [List.take_succ_cons, joinS, List.length_append]
      have : (List.flatMap (fun x : Tok => 32 :: x.t) (r.take n)).length ≤ (List.flatMap (fun x : Tok => 32 :: x.t) r).length := by
        conv => rhs; rw [← List.take_append_drop n r]
        rw [List.flatMap_append, List.length_append]
        omega
      omega

set_option maxHeartbeats 1000000 in
set_option maxRecDepth 100000 in
theorem join_any (T : List Tok) (A : Option Addr) (c : Nat) (w : World) (h : Src encT 2 w (fun _ => False) A T) (hne : joinS T ≠ []) (hl : (joinS T).length ≤ 1048576) (hm : T.length ≤ 1048576) :
    Calls Tryz.prog 26 #[.slice A T.length c] w fun e w' => e = .returned (.string ⟨⟨joinS T⟩⟩) ∧ Kept (fun _ => False) w w' := by
  have hs : Src encT 2 w (fun j => w.heap.size ≤ j) A T := h.fresh encT_len (by decide) (Kept.refl _ w) (fun j hj => hj)
  have k0 : Kept (fun j => w.heap.size ≤ j) w (w.alloc (.cells #[.pointer none, .slice none 0 0] 135)) := (Kept.refl _ w).alloc _
  have hb0 : BP w.heap.size (w.alloc (.cells #[.pointer none, .slice none 0 0] 135)) w.heap.size [] :=
    .inl ⟨_, heap_alloc_new w _, Row.ofNil _, (fun j hj => by cases hj), Nat.le_refl _⟩
  have fin : ∀ w', Kept (fun j => w.heap.size ≤ j) w w' → Kept (fun _ => False) w w' := fun w' k => k.mono (fun j hj q => by omega)
  have FIN := Lib.hid fin
  obtain ⟨R, hR⟩ : ∃ R, joinS T = R := ⟨_, rfl⟩
  have HR := Lib.hid hR
  rw [hR] at hne hl ⊢
  clear hR fin h
  obtain ⟨B, hB⟩ : ∃ B, w.heap.size = B := ⟨_, rfl⟩
  rw [hB] at hs k0 hb0
  have hB2 := Lib.hid hB
  go_enter Tryz.func26, Tryz.ntmps26
  go_wp2_with fail
  clear hB
  go_loopg [8] T.length (fun k iv wr => ∃ (n : Nat), n + k = T.length ∧ iv = .int .i64 n ∧ BP B wr B (joinS (T.take n)) ∧ Kept (fun j => B ≤ j) w wr)
  case atStart => exact ⟨0, by omega, rfl, hb0, k0⟩
  case round =>
    obtain ⟨n, hk, rfl, hbp, hkr⟩ := hrel
    clear hb0 k0
    have hjl := join_le T n
    rw [HR.out] at hjl
    by_cases hlt : n < T.length
    · obtain ⟨x, hx⟩ : ∃ x, T[n]? = some x := ⟨_, List.getElem?_eq_getElem hlt⟩
      obtain ⟨b1, o1, rfl, hbn, x0, x1⟩ := (hs.kept hkr (fun _ q => q) (fun _ q => q)).cellsT hx
      have hjt := join_take T n hlt
      have hxe : T[n] = x := by rw [List.getElem?_eq_getElem hlt] at hx; injection hx
      rw [hxe] at hjt
      have hjl2 := join_le T (n + 1)
      rw [HR.out] at hjl2
      have hll := congrArg List.length hjt
      rw [List.length_append, List.length_append] at hll
      have HJ := Lib.hid hjt
      obtain ⟨xk, xt⟩ := x
      simp only at x0 x1 hll HJ
      have hlt' : decide ((n : Int) < (T.length : Int)) = true := by simp; omega
      have hbp1 := hbp.same ((Kept.refl (fun _ => False) wr).alloc (.cells #[.int .i64 xk, .string ⟨⟨xt⟩⟩] 96)) (fun _ _ q => q)
      have hk1 := hkr.alloc (.cells #[.int .i64 xk, .string ⟨⟨xt⟩⟩] 96)
      have hal := heap_alloc_new wr (.cells #[.int .i64 xk, .string ⟨⟨xt⟩⟩] 96)
      have q1 := cell_of_row _ wr.heap.size 1 _ _ _ hal
      simp only [List.getElem?_toArray, List.getElem?_cons_zero, List.getElem?_cons_succ] at q1
      have hnb : ¬ MayW B B (wr.alloc (.cells #[.int .i64 xk, .string ⟨⟨xt⟩⟩] 96)) wr.heap.size := by
        rintro (q | ⟨_, cs, f, q⟩)
        · obtain ⟨v, hbv⟩ : ∃ v, B < wr.heap.size := by
            rcases hbp with ⟨v, h1, _⟩ | ⟨v, h1, _⟩
            · exact ⟨v, (Array.getElem?_eq_some_iff.1 h1).1⟩
            · exact ⟨v, (Array.getElem?_eq_some_iff.1 h1).1⟩
          omega
        · rw [hal] at q
          injection q with q
          injection q with _ q
          exact absurd q (by decide)
      have HNB := Lib.hid hnb
      clear hx hxe hjt hal hnb
      by_cases h0 : 0 < n
      · have h0' : decide (0 < (n : Int)) = true := by simp; omega
        have hwb := wbyte_any B B (joinS (T.take n)) 32 _ hbp1 (by omega)
        rw [if_pos h0] at HJ hll
        go_wp2_with fail
        refine hwb.mono ?_
        rintro e w3 ⟨rfl, hbp2, k2⟩
        have q3 : w3.cell? ⟨wr.heap.size, 1, none⟩ = some (.string ⟨⟨xt⟩⟩) := k2.cell q1 HNB.out
        have hws := wstr_any B B _ xt _ hbp2 (by simp only [List.length_append, List.length_singleton] at hll ⊢; omega)
        have k2' := k2.mono (T := fun j => B ≤ j) (fun j _ q => mayw_ge (Nat.le_refl B) q)
        go_wp2_with fail
        refine hws.mono ?_
        rintro e w4 ⟨⟨_, rfl⟩, hbp3, k3⟩
        go_wp2_with fail
        go_roundg (gk - 1)
        case measure => omega
        case rel => exact ⟨n + 1, by omega, int_eq (by omega), by rw [HJ.out]; exact hbp3, (hk1.trans k2').trans (k3.mono (fun j _ q => mayw_ge (Nat.le_refl B) q))⟩
      · have h0' : decide (0 < (n : Int)) = false := by simp; omega
        rw [if_neg h0] at HJ hll
        rw [List.append_nil] at HJ
        have hws := wstr_any B B _ xt _ hbp1 (by simp only [List.length_nil] at hll; omega)
        go_wp2_with fail
        refine hws.mono ?_
        rintro e w4 ⟨⟨_, rfl⟩, hbp3, k3⟩
        go_wp2_with fail
        go_roundg (gk - 1)
        case measure => omega
        case rel => exact ⟨n + 1, by omega, int_eq (by omega), by rw [HJ.out]; exact hbp3, hk1.trans (k3.mono (fun j _ q => mayw_ge (Nat.le_refl B) q))⟩
    · have e : n = T.length := by omega
      have hlt' : decide ((n : Int) < (T.length : Int)) = false := by simp; omega
      rw [e, List.take_length, HR.out] at hbp
      have hbs := bstr_any B B R wr hbp hne (by omega)
      clear e
      go_wp2_with fail
      refine hbs.mono ?_
      rintro e w4 ⟨rfl, k4⟩
      go_wp2_with fail
      go_ret
      exact ⟨rfl, FIN.out _ (by rw [hB2.out]; exact hkr.trans k4)⟩
end Go.Proofs.YtballmombklalaaGreat
