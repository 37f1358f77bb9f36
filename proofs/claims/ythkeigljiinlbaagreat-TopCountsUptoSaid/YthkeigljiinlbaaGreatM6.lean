/- Picked out of the text X of TopExprs. -/
import Derived.Test.YthkeigljiinlbaaGreatM5
namespace Go.Proofs.YthkeigljiinlbaaGreat
open Go.RowKit

/-- Type assertions on what the walk knows. -/
theorem ta_yes {P : Program} (t xT : TypeId) (v : Value) {d : TypeDesc} (h : P.underlying t = some d) (hd : ∀ l, d ≠ .interface l) (ok : Bool) (w : World) :
    (Instr.typeAssert (.iface t v) xT t ok).run P w = .ok (if ok = true then .tuple #[v, .bool true] else v) w := by
  cases d <;> first | (exact absurd rfl (hd _)) | (cases ok <;> simp [Instr.typeAssert, run_underlying h, go_sem, Result.andThen])
theorem ta_no {P : Program} (t xT t' : TypeId) (v z : Value) {d : TypeDesc} (h : P.underlying t' = some d) (hd : ∀ l, d ≠ .interface l) (hne : t ≠ t') (w : World) (hz : (zeroValue t').run P w = .ok z w) :
    (Instr.typeAssert (.iface t v) xT t' true).run P w = .ok (.tuple #[z, .bool false]) w := by
  have hne' : ¬ t' = t := fun e => hne e.symm
  cases d <;> first | (exact absurd rfl (hd _)) | (simp [Instr.typeAssert, run_underlying h, go_sem, Result.andThen, hne, hne', hz])
theorem ta_num (x : Int) (w : World) : (Instr.typeAssert (.iface 186 (.int .i64 x)) 165 186 true).run Tryz.prog w = .ok (.tuple #[.int .i64 x, .bool true]) w :=
  ta_yes (P := Tryz.prog) 186 165 _ Tryz.underlying186 (fun l q => by cases q) true w
theorem ta_wnum (s : ByteArray) (w : World) : (Instr.typeAssert (.iface 190 (.string s)) 165 186 true).run Tryz.prog w = .ok (.tuple #[.int .i64 0, .bool false]) w :=
  ta_no (P := Tryz.prog) 190 165 186 _ _ Tryz.underlying186 (fun l q => by cases q) (by decide) w (by kernel_rfl)
theorem ta_words (s : ByteArray) (w : World) : (Instr.typeAssert (.iface 190 (.string s)) 165 190 false).run Tryz.prog w = .ok (.string s) w :=
  ta_yes (P := Tryz.prog) 190 165 _ Tryz.underlying190 (fun l q => by cases q) false w

theorem cmpN_any (x y : Int) (w : World) : Calls Tryz.prog 118 #[.int .i64 x, .int .i64 y] w fun e w' => e = .returned (.int .i64 (Lib.compareInt x y)) ∧ w' = w := by
  go_enter Tryz.func118, Tryz.ntmps118
  go_wp2
  all_goals (go_ret; refine ⟨?_, rfl⟩; unfold Lib.compareInt; (repeat' split) <;> first | rfl | (exfalso; omega))

/-- How a value stands to another. -/
def cmpV (a b : Wd) : Int :=
  if valB a = true ∧ valB b = true then (if a.c = 1 then (if b.c = 1 then Lib.compareInt a.n b.n else -1) else if b.c = 1 then 1 else Lib.compareBytes a.t b.t) else 0

theorem thing_cases (v : Wd) : (valB v = false ∧ thingV v = Value.nilIface) ∨ (valB v = true ∧ v.c = 1 ∧ thingV v = .iface 186 (.int .i64 v.n)) ∨ (valB v = true ∧ v.c = 2 ∧ thingV v = .iface 190 (.string ⟨⟨v.t⟩⟩)) := by
  unfold valB thingV
  by_cases h1 : v.c = 1 ∧ v.t = []
  · exact .inr (.inl ⟨by simp [h1], h1.1, by rw [if_pos h1]⟩)
  · by_cases h2 : v.c = 2 ∧ v.n = 0 ∧ v.t.length ≤ 64
    · exact .inr (.inr ⟨by simp [h2], h2.1, by rw [if_neg h1, if_pos h2]⟩)
    · refine .inl ⟨?_, by rw [if_neg h1, if_neg h2]⟩
      rw [decide_eq_false_iff_not]
      rintro (q | q)
      · exact h1 q
      · exact h2 q

set_option maxHeartbeats 4000000 in
set_option maxRecDepth 100000 in
theorem vcmp_any (a b : Wd) (w : World) : Calls Tryz.prog 81 #[aggW a, aggW b] w fun e w' => e = .returned (.int .i64 (cmpV a b)) ∧ Kept (fun _ => False) w w' := by
  have tn := ta_num
  have tw := ta_wnum
  have ts := ta_words
  have ha := fun wx => of_any a wx
  have hb := fun wx => of_any b wx
  have hci := cmpN_any a.n b.n
  have hcs : ∀ wx, Calls Tryz.prog 119 #[.string ⟨⟨a.t⟩⟩, .string ⟨⟨b.t⟩⟩] wx fun e w' => e = .returned (.int .i64 (Lib.compareBytes a.t b.t)) ∧ w' = wx := fun wx => Tryz.strings_Compare ⟨⟨a.t⟩⟩ ⟨⟨b.t⟩⟩ wx
  have hca := thing_cases a
  have hcb := thing_cases b
  unfold cmpV
  obtain ⟨ac, an, at_⟩ := a
  obtain ⟨bc, bn, bt_⟩ := b
  unfold aggW at *
  simp only at *
  generalize valB ⟨ac, an, at_⟩ = va at *
  generalize valB ⟨bc, bn, bt_⟩ = vb at *
  generalize thingV ⟨ac, an, at_⟩ = ta at *
  generalize thingV ⟨bc, bn, bt_⟩ = tb at *
  rcases hca with ⟨rfl, rfl⟩ | ⟨rfl, c1, rfl⟩ | ⟨rfl, c1, rfl⟩
  · rw [if_neg (by simp)]
    clear hcb hci hcs
    go_enter Tryz.func81, Tryz.ntmps81
    go_wp2_with fail
    refine (ha _).mono ?_
    rintro e w1 ⟨rfl, k1⟩
    have hB := heap_alloc_new (w.alloc (.cells #[.int .i64 ac, .int .i64 an, .string ⟨⟨at_⟩⟩] 48)) (.cells #[.int .i64 bc, .int .i64 bn, .string ⟨⟨bt_⟩⟩] 48)
    rw [World.size_alloc] at hB
    have hB1 := k1.heap hB (fun q => q)
    have q0 := cell_of_row w1 (w.heap.size + 1) 0 _ _ _ hB1
    have q1 := cell_of_row w1 (w.heap.size + 1) 1 _ _ _ hB1
    have q2 := cell_of_row w1 (w.heap.size + 1) 2 _ _ _ hB1
    simp only [List.getElem?_toArray, List.getElem?_cons_zero, List.getElem?_cons_succ] at q0 q1 q2
    clear hB hB1
    go_wp2_with fail
    refine (hb _).mono ?_
    rintro e w2 ⟨rfl, k2⟩
    have kk : Hid (Kept (fun _ => False) w w2) := (((Kept.refl _ w).alloc _).alloc _).trans (k1.trans k2)
    clear k1 k2
    go_wp2_with fail
    go_ret
    exact ⟨rfl, kk⟩
  · rcases hcb with ⟨rfl, rfl⟩ | ⟨rfl, c2, rfl⟩ | ⟨rfl, c2, rfl⟩
    · rw [if_neg (by simp)]
      clear hci hcs c1
      go_enter Tryz.func81, Tryz.ntmps81
      go_wp2_with fail
      refine (ha _).mono ?_
      rintro e w1 ⟨rfl, k1⟩
      have hB := heap_alloc_new (w.alloc (.cells #[.int .i64 ac, .int .i64 an, .string ⟨⟨at_⟩⟩] 48)) (.cells #[.int .i64 bc, .int .i64 bn, .string ⟨⟨bt_⟩⟩] 48)
      rw [World.size_alloc] at hB
      have hB1 := k1.heap hB (fun q => q)
      have q0 := cell_of_row w1 (w.heap.size + 1) 0 _ _ _ hB1
      have q1 := cell_of_row w1 (w.heap.size + 1) 1 _ _ _ hB1
      have q2 := cell_of_row w1 (w.heap.size + 1) 2 _ _ _ hB1
      simp only [List.getElem?_toArray, List.getElem?_cons_zero, List.getElem?_cons_succ] at q0 q1 q2
      clear hB hB1
      go_wp2_with fail
      refine (hb _).mono ?_
      rintro e w2 ⟨rfl, k2⟩
      have kk : Hid (Kept (fun _ => False) w w2) := (((Kept.refl _ w).alloc _).alloc _).trans (k1.trans k2)
      clear k1 k2
      go_wp2_with fail
      go_ret
      exact ⟨rfl, kk⟩
    · rw [if_pos ⟨rfl, rfl⟩, if_pos c1, if_pos c2]
      clear hcs c1 c2
      generalize Lib.compareInt an bn = r at *
      go_enter Tryz.func81, Tryz.ntmps81
      go_wp2_with fail
      refine (ha _).mono ?_
      rintro e w1 ⟨rfl, k1⟩
      have hB := heap_alloc_new (w.alloc (.cells #[.int .i64 ac, .int .i64 an, .string ⟨⟨at_⟩⟩] 48)) (.cells #[.int .i64 bc, .int .i64 bn, .string ⟨⟨bt_⟩⟩] 48)
      rw [World.size_alloc] at hB
      have hB1 := k1.heap hB (fun q => q)
      have q0 := cell_of_row w1 (w.heap.size + 1) 0 _ _ _ hB1
      have q1 := cell_of_row w1 (w.heap.size + 1) 1 _ _ _ hB1
      have q2 := cell_of_row w1 (w.heap.size + 1) 2 _ _ _ hB1
      simp only [List.getElem?_toArray, List.getElem?_cons_zero, List.getElem?_cons_succ] at q0 q1 q2
      clear hB hB1
      go_wp2_with fail
      refine (hb _).mono ?_
      rintro e w2 ⟨rfl, k2⟩
      have kk : Hid (Kept (fun _ => False) w w2) := (((Kept.refl _ w).alloc _).alloc _).trans (k1.trans k2)
      clear k1 k2
      go_wp2_with fail
      refine (hci _).mono ?_
      rintro e w3 ⟨rfl, rfl⟩
      go_wp2_with fail
      go_ret
      exact ⟨rfl, kk⟩
    · rw [if_pos ⟨rfl, rfl⟩, if_pos c1, if_neg (by rw [c2]; decide)]
      clear hci hcs c1 c2
      go_enter Tryz.func81, Tryz.ntmps81
      go_wp2_with fail
      refine (ha _).mono ?_
      rintro e w1 ⟨rfl, k1⟩
      have hB := heap_alloc_new (w.alloc (.cells #[.int .i64 ac, .int .i64 an, .string ⟨⟨at_⟩⟩] 48)) (.cells #[.int .i64 bc, .int .i64 bn, .string ⟨⟨bt_⟩⟩] 48)
      rw [World.size_alloc] at hB
      have hB1 := k1.heap hB (fun q => q)
      have q0 := cell_of_row w1 (w.heap.size + 1) 0 _ _ _ hB1
      have q1 := cell_of_row w1 (w.heap.size + 1) 1 _ _ _ hB1
      have q2 := cell_of_row w1 (w.heap.size + 1) 2 _ _ _ hB1
      simp only [List.getElem?_toArray, List.getElem?_cons_zero, List.getElem?_cons_succ] at q0 q1 q2
      clear hB hB1
      go_wp2_with fail
      refine (hb _).mono ?_
      rintro e w2 ⟨rfl, k2⟩
      have kk : Hid (Kept (fun _ => False) w w2) := (((Kept.refl _ w).alloc _).alloc _).trans (k1.trans k2)
      clear k1 k2
      go_wp2_with fail
      go_ret
      exact ⟨rfl, kk⟩
  · rcases hcb with ⟨rfl, rfl⟩ | ⟨rfl, c2, rfl⟩ | ⟨rfl, c2, rfl⟩
    · rw [if_neg (by simp)]
      clear hci hcs c1
      go_enter Tryz.func81, Tryz.ntmps81
      go_wp2_with fail
      refine (ha _).mono ?_
      rintro e w1 ⟨rfl, k1⟩
      have hB := heap_alloc_new (w.alloc (.cells #[.int .i64 ac, .int .i64 an, .string ⟨⟨at_⟩⟩] 48)) (.cells #[.int .i64 bc, .int .i64 bn, .string ⟨⟨bt_⟩⟩] 48)
      rw [World.size_alloc] at hB
      have hB1 := k1.heap hB (fun q => q)
      have q0 := cell_of_row w1 (w.heap.size + 1) 0 _ _ _ hB1
      have q1 := cell_of_row w1 (w.heap.size + 1) 1 _ _ _ hB1
      have q2 := cell_of_row w1 (w.heap.size + 1) 2 _ _ _ hB1
      simp only [List.getElem?_toArray, List.getElem?_cons_zero, List.getElem?_cons_succ] at q0 q1 q2
      clear hB hB1
      go_wp2_with fail
      refine (hb _).mono ?_
      rintro e w2 ⟨rfl, k2⟩
      have kk : Hid (Kept (fun _ => False) w w2) := (((Kept.refl _ w).alloc _).alloc _).trans (k1.trans k2)
      clear k1 k2
      go_wp2_with fail
      go_ret
      exact ⟨rfl, kk⟩
    · rw [if_pos ⟨rfl, rfl⟩, if_neg (by rw [c1]; decide), if_pos c2]
      clear hci hcs c1 c2
      go_enter Tryz.func81, Tryz.ntmps81
      go_wp2_with fail
      refine (ha _).mono ?_
      rintro e w1 ⟨rfl, k1⟩
      have hB := heap_alloc_new (w.alloc (.cells #[.int .i64 ac, .int .i64 an, .string ⟨⟨at_⟩⟩] 48)) (.cells #[.int .i64 bc, .int .i64 bn, .string ⟨⟨bt_⟩⟩] 48)
      rw [World.size_alloc] at hB
      have hB1 := k1.heap hB (fun q => q)
      have q0 := cell_of_row w1 (w.heap.size + 1) 0 _ _ _ hB1
      have q1 := cell_of_row w1 (w.heap.size + 1) 1 _ _ _ hB1
      have q2 := cell_of_row w1 (w.heap.size + 1) 2 _ _ _ hB1
      simp only [List.getElem?_toArray, List.getElem?_cons_zero, List.getElem?_cons_succ] at q0 q1 q2
      clear hB hB1
      go_wp2_with fail
      refine (hb _).mono ?_
      rintro e w2 ⟨rfl, k2⟩
      have kk : Hid (Kept (fun _ => False) w w2) := (((Kept.refl _ w).alloc _).alloc _).trans (k1.trans k2)
      clear k1 k2
      go_wp2_with fail
      go_ret
      exact ⟨rfl, kk⟩
    · rw [if_pos ⟨rfl, rfl⟩, if_neg (by rw [c1]; decide), if_neg (by rw [c2]; decide)]
      clear hci c1 c2
      generalize Lib.compareBytes at_ bt_ = r at *
      go_enter Tryz.func81, Tryz.ntmps81
      go_wp2_with fail
      refine (ha _).mono ?_
      rintro e w1 ⟨rfl, k1⟩
      have hB := heap_alloc_new (w.alloc (.cells #[.int .i64 ac, .int .i64 an, .string ⟨⟨at_⟩⟩] 48)) (.cells #[.int .i64 bc, .int .i64 bn, .string ⟨⟨bt_⟩⟩] 48)
      rw [World.size_alloc] at hB
      have hB1 := k1.heap hB (fun q => q)
      have q0 := cell_of_row w1 (w.heap.size + 1) 0 _ _ _ hB1
      have q1 := cell_of_row w1 (w.heap.size + 1) 1 _ _ _ hB1
      have q2 := cell_of_row w1 (w.heap.size + 1) 2 _ _ _ hB1
      simp only [List.getElem?_toArray, List.getElem?_cons_zero, List.getElem?_cons_succ] at q0 q1 q2
      clear hB hB1
      go_wp2_with fail
      refine (hb _).mono ?_
      rintro e w2 ⟨rfl, k2⟩
      have kk : Hid (Kept (fun _ => False) w w2) := (((Kept.refl _ w).alloc _).alloc _).trans (k1.trans k2)
      clear k1 k2
      go_wp2_with fail
      go_quiet ((go_at_call 119; exact Calls.quiet_of_same (hcs _)))
      go_wp2_with fail
      go_ret
      exact ⟨rfl, Kept.trans kk ((Kept.refl _ _).drewN _)⟩
end Go.Proofs.YthkeigljiinlbaaGreat

/- Picked out of the text Y of TopExprs. -/
namespace Go.Proofs.YthkeigljiinlbaaGreat
open Go.RowKit

/-- Where the first thing is of which p holds; p may hang on the place, too. -/
def findI {α : Type} (p : Nat → α → Bool) : List α → Nat → Int
  | [], _ => -1
  | x :: r, n => if p n x = true then (n : Int) else findI p r (n + 1)
theorem findI_bd {α : Type} (p : Nat → α → Bool) : ∀ (L : List α) (n : Nat), findI p L n = -1 ∨ (∃ i : Nat, findI p L n = i ∧ n ≤ i ∧ i < n + L.length)
  | [], _ => .inl rfl
  | x :: r, n => by
    unfold findI
    split
    · exact .inr ⟨n, rfl, Nat.le_refl _, by simp⟩
    · rcases findI_bd p r (n + 1) with h | ⟨i, h, h1, h2⟩
      · exact .inl h
      · exact .inr ⟨i, h, by omega, by simp only [List.length_cons]; omega⟩
theorem findI_any {α : Type} (q : α → Bool) : ∀ (L : List α) (n : Nat), decide (0 ≤ findI (fun _ => q) L n) = L.any q
  | [], _ => rfl
  | x :: r, n => by
    unfold findI
    rw [List.any_cons]
    cases hq : q x with
    | true => simp
    | false =>
      rw [if_neg (by simp), findI_any q r (n + 1)]
      simp
set_option maxHeartbeats 1000000 in
set_option maxRecDepth 100000 in
theorem idxV_any (L : List Wd) (A : Option Addr) (c : Nat) (w : World) (g : Nat) (lb : Array Value) (p : Nat → Wd → Bool) (J : Nat → World → Prop) (hl : L.length ≤ maxLen)
    (eg : ∀ args w, (callFunc g args).run Tryz.prog w = .ok (.enter g args) w) (hs : ∀ n W, J n W → Src encW 3 W (fun _ => False) A L)
    (hf : ∀ n x W, J n W → L[n]? = some x → Calls Tryz.prog g (#[aggW x] ++ lb) W fun e W' => e = .returned (.bool (p n x)) ∧ J (n + 1) W') (h0 : J 0 w) :
    Calls Tryz.prog 78 #[.slice A L.length c, .func (.func g) #[] lb] w fun e w' => ∃ n, e = .returned (.int .i64 (findI p L 0)) ∧ J n w' := by
  unfold maxLen at hl
  generalize hR0 : findI p L 0 = R
  go_enter Tryz.func78, Tryz.ntmps78
  go_wp2_with fail
  go_loopg [8] L.length (fun k iv wr => ∃ n : Nat, n + k = L.length ∧ iv = .int .i64 n ∧ findI p (L.drop n) n = R ∧ J n wr)
  case atStart => exact ⟨0, by omega, rfl, hR0, h0⟩
  case round =>
    obtain ⟨n, hk, rfl, hsf, hj⟩ := hrel
    clear hR0
    by_cases hlt : n < L.length
    · obtain ⟨o, ho⟩ : ∃ o, L[n]? = some o := ⟨L[n], List.getElem?_eq_getElem hlt⟩
      have hdr : L.drop n = o :: L.drop (n + 1) := by
        rw [List.drop_eq_getElem_cons hlt]
        congr 1
        rw [List.getElem?_eq_getElem hlt] at ho
        injection ho
      rw [hdr, findI] at hsf
      obtain ⟨b, off, hA, _, x0, x1, x2⟩ := (hs n wr hj).cells3 ho
      subst hA
      have hfx := hf n o wr hj ho
      unfold aggW at hfx
      clear hdr ho hs hf hj
      cases hp : p n o with
      | true =>
        rw [hp] at hfx hsf
        rw [if_pos rfl] at hsf
        subst hsf
        clear hp
        go_wp2_with fail
        refine hfx.mono ?_
        rintro e w' ⟨rfl, hj'⟩
        go_wp2_with fail
        go_ret
        exact ⟨_, rfl, hj'⟩
      | false =>
        rw [hp] at hfx hsf
        rw [if_neg (by simp)] at hsf
        have hsf' : Hid (findI p (L.drop (n + 1)) (n + 1) = R) := hsf
        clear hp hsf
        go_wp2_with fail
        refine hfx.mono ?_
        rintro e w' ⟨rfl, hj'⟩
        go_wp2_with fail
        go_roundg (gk - 1)
        case measure => omega
        case rel => exact ⟨n + 1, by omega, int_eq (by omega), hsf', hj'⟩
    · have e : n = L.length := by omega
      subst e
      rw [List.drop_length, findI] at hsf
      subst hsf
      clear hs hf
      go_wp2_with fail
      go_ret
      exact ⟨_, rfl, hj⟩
theorem contV_any (L : List Wd) (A : Option Addr) (c : Nat) (w : World) (g : Nat) (lb : Array Value) (p : Nat → Wd → Bool) (J : Nat → World → Prop) (hl : L.length ≤ maxLen)
    (eg : ∀ args w, (callFunc g args).run Tryz.prog w = .ok (.enter g args) w) (hs : ∀ n W, J n W → Src encW 3 W (fun _ => False) A L)
    (hf : ∀ n x W, J n W → L[n]? = some x → Calls Tryz.prog g (#[aggW x] ++ lb) W fun e W' => e = .returned (.bool (p n x)) ∧ J (n + 1) W') (h0 : J 0 w) :
    Calls Tryz.prog 60 #[.slice A L.length c, .func (.func g) #[] lb] w fun e w' => ∃ n, e = .returned (.bool (decide (0 ≤ findI p L 0))) ∧ J n w' := by
  have hi := idxV_any L A c w g lb p J hl eg hs hf h0
  have hb := findI_bd p L 0
  generalize findI p L 0 = R at *
  clear hs hf h0 eg
  go_enter Tryz.func60, Tryz.ntmps60
  go_wp2_with fail
  refine hi.mono ?_
  rintro e w' ⟨n, rfl, hj⟩
  go_wp2_with fail
  go_ret
  exact ⟨_, rfl, hj⟩

end Go.Proofs.YthkeigljiinlbaaGreat
