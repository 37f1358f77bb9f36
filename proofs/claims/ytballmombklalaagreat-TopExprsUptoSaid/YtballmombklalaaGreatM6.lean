/- lex: the first token of a text. -/
import Derived.Test.YtballmombklalaaGreatM5
import Derived.Lib.IndexLaws
namespace Go.Proofs.YtballmombklalaaGreat
open Go.RowKit

structure Tok where
  k : Int
  t : List UInt8
deriving DecidableEq
def encT (x : Tok) : List Value := [.int .i64 x.k, .string ⟨⟨x.t⟩⟩]
theorem encT_len (x : Tok) : (encT x).length = 2 := rfl
def aggT (x : Tok) : Value := .agg #[.int .i64 x.k, .string ⟨⟨x.t⟩⟩]

/-- The token that a text begins with; and what is wrong. -/
def firstS (s : List UInt8) : Tok × Int :=
  if letterB (s.headD 0) = true then (⟨1, s.takeWhile lodB⟩, 0)
  else if digitB (s.headD 0) = true then (⟨2, s.takeWhile digitB⟩, 0)
  else if s.headD 0 = 39 then (if Lib.indexByte (s.drop 1) 39 < 0 then (⟨0, []⟩, 5) else (⟨3, s.take (Lib.indexByte (s.drop 1) 39 + 2).toNat⟩, 0))
  else if signN s = 0 then (⟨0, []⟩, 24) else (⟨4, s.take (signN s)⟩, 0)

theorem take_tw (p : UInt8 → Bool) (s : List UInt8) : s.take (s.takeWhile p).length = s.takeWhile p := by
  induction s with
  | nil => rfl
  | cons a s ih =>
    rw [List.takeWhile_cons]
    split
    · simp [ih]
    · rfl
theorem tw_le (p : UInt8 → Bool) (s : List UInt8) : (s.takeWhile p).length ≤ s.length := by
  rw [← take_tw p s, List.length_take]; omega
theorem tw_pos (p : UInt8 → Bool) {s : List UInt8} (hp : 0 < s.length) (h : p (s.headD 0) = true) : 0 < (s.takeWhile p).length := by
  cases s with
  | nil => simp at hp
  | cons a s => simp at h; rw [List.takeWhile_cons, h]; simp

theorem index_bd (l : List UInt8) (c : UInt8) : Lib.indexByte l c = -1 ∨ (0 ≤ Lib.indexByte l c ∧ Lib.indexByte l c < l.length) := by
  have h := Lib.indexByte_ge l c
  by_cases e : Lib.indexByte l c = -1
  · exact .inl e
  · refine .inr ⟨by omega, ?_⟩
    obtain ⟨o, ho⟩ := Int.eq_ofNat_of_zero_le (show 0 ≤ Lib.indexByte l c by omega)
    have := (Lib.indexByte_some ho).1
    have := (List.getElem?_eq_some_iff.1 this).1
    omega

theorem signN_le (s : List UInt8) (hp : 0 < s.length) : signN s ≤ s.length := by
  unfold signN
  split
  · rename_i h; exact h.1
  · split <;> omega

theorem first_any (s : List UInt8) (w : World) (hp : 0 < s.length) (hl : s.length ≤ maxLen) :
    Calls Tryz.prog 39 #[.string ⟨⟨s⟩⟩] w fun e w' => e = .returned (.tuple #[aggT (firstS s).1, .int .i64 (firstS s).2]) ∧ Kept (fun _ => False) w w' := by
  obtain ⟨c, q, hs⟩ : ∃ c q, s = c :: q := by cases s with | nil => simp at hp | cons c q => exact ⟨c, q, rfl⟩
  have h0 : ∀ h, (⟨⟨s⟩⟩ : ByteArray)[0]'h = c := by subst hs; exact fun _ => rfl
  have hh : s.headD 0 = c := by subst hs; rfl
  have hl' : s.length ≤ 9223372036854775807 := hl
  have c1 : ∀ wx, Calls Tryz.prog 70 #[.int .u8 (c.toNat : Int)] wx fun e w' => e = .returned (.bool (letterB c)) ∧ w' = wx := fun wx => letter_any c wx
  have c2 : ∀ wx, Calls Tryz.prog 73 #[.int .u8 (c.toNat : Int)] wx fun e w' => e = .returned (.bool (digitB c)) ∧ w' = wx := fun wx => digit_any c wx
  cases hb1 : letterB c with
  | true =>
    rw [hb1] at c1
    have hf : firstS s = (⟨1, s.takeWhile lodB⟩, 0) := by unfold firstS; rw [hh, if_pos hb1]
    rw [hf]
    clear hf
    have hr := fun wx => run_any 72 lodB s wx hl (enters_of Tryz.func72 (by kernel_rfl) rfl) (fun c w => lod_any c w)
    have ht := take_tw lodB s
    have hle := tw_le lodB s
    have hlp := tw_pos lodB hp (by rw [hh]; unfold lodB; rw [hb1]; rfl)
    generalize hn : (s.takeWhile lodB).length = n at *
    have hsl := fun wx => slice_hi (P := Tryz.prog) 9 Tryz.underlying9 s (n : Int) (by omega) (by omega) wx
    rw [Int.toNat_natCast, ht] at hsl
    clear hs hn
    go_enter Tryz.func39, Tryz.ntmps39
    go_wp2_with fail
    refine (c1 _).mono ?_
    rintro e w' ⟨rfl, rfl⟩
    go_wp2_with fail
    refine (hr _).mono ?_
    rintro e w' ⟨rfl, rfl⟩
    go_wp2_with fail
    refine bodyPost_ret (v := .tuple #[aggT ⟨1, s.takeWhile lodB⟩, .int .i64 0]) (by simp [results, Tryz.results39, go_sem, aggT]) rfl ⟨rfl, (Kept.refl _ w).alloc _⟩
  | false =>
    rw [hb1] at c1
    cases hb2 : digitB c with
    | true =>
      rw [hb2] at c2
      have hf : firstS s = (⟨2, s.takeWhile digitB⟩, 0) := by unfold firstS; rw [hh, if_neg (by rw [hb1]; decide), if_pos hb2]
      rw [hf]
      clear hf
      have hr := fun wx => run_any 73 digitB s wx hl (enters_of Tryz.func73 (by kernel_rfl) rfl) (fun c w => digit_any c w)
      have ht := take_tw digitB s
      have hle := tw_le digitB s
      have hlp := tw_pos digitB hp (by rw [hh]; exact hb2)
      generalize hn : (s.takeWhile digitB).length = n at *
      have hsl := fun wx => slice_hi (P := Tryz.prog) 9 Tryz.underlying9 s (n : Int) (by omega) (by omega) wx
      rw [Int.toNat_natCast, ht] at hsl
      clear hs hn
      go_enter Tryz.func39, Tryz.ntmps39
      go_wp2_with fail
      refine (c1 _).mono ?_
      rintro e w' ⟨rfl, rfl⟩
      go_wp2_with fail
      refine (c2 _).mono ?_
      rintro e w' ⟨rfl, rfl⟩
      go_wp2_with fail
      refine (hr _).mono ?_
      rintro e w' ⟨rfl, rfl⟩
      go_wp2_with fail
      refine bodyPost_ret (v := .tuple #[aggT ⟨2, s.takeWhile digitB⟩, .int .i64 0]) (by simp [results, Tryz.results39, go_sem, aggT]) rfl ⟨rfl, (Kept.refl _ w).alloc _⟩
    | false =>
      rw [hb2] at c2
      by_cases h39 : c = 39
      · have h39' : ((c.toNat : Int) == 39) = true := by subst h39; rfl
        have hf : firstS s = if Lib.indexByte (s.drop 1) 39 < 0 then (⟨0, []⟩, 5) else (⟨3, s.take (Lib.indexByte (s.drop 1) 39 + 2).toNat⟩, 0) := by unfold firstS; rw [hh, if_neg (by rw [hb1]; decide), if_neg (by rw [hb2]; decide), if_pos h39]
        rw [hf]
        have hdl : (s.drop 1).length = s.length - 1 := List.length_drop
        have hix : ∀ (wx : World), Calls Tryz.prog 74 #[.string ⟨⟨s.drop 1⟩⟩, .int .u8 39] wx fun e w' => e = .returned (.int .i64 (Lib.indexByte (s.drop 1) 39)) ∧ w' = wx := by
          intro wx
          have := Tryz.strings_IndexByte ⟨⟨s.drop 1⟩⟩ 39 wx
          simpa using this
        have hsl := fun wx => slice_lo (P := Tryz.prog) 9 Tryz.underlying9 s 1 (by omega) (by omega) wx
        rw [Int.toNat_one] at hsl
        have hib := index_bd (s.drop 1) 39
        have hsl2 := fun a b wx => slice_hi (P := Tryz.prog) 9 Tryz.underlying9 s (Lib.indexByte (s.drop 1) 39 + 2) a b wx
        subst h39
        clear hs hh hf
        generalize Lib.indexByte (s.drop 1) 39 = n at *
        generalize s.drop 1 = d at *
        rcases hib with rfl | ⟨b1, b2⟩
        · rw [if_pos (by omega)]
          clear hsl2
          go_enter Tryz.func39, Tryz.ntmps39
          go_wp2_with fail
          refine (c1 _).mono ?_
          rintro e w' ⟨rfl, rfl⟩
          go_wp2_with fail
          refine (c2 _).mono ?_
          rintro e w' ⟨rfl, rfl⟩
          go_wp2_with fail
          refine (hix _).mono ?_
          rintro e w' ⟨rfl, rfl⟩
          go_wp2_with fail
          refine bodyPost_ret (v := .tuple #[aggT ⟨0, []⟩, .int .i64 5]) (by simp [results, Tryz.results39, go_sem, aggT]) rfl ⟨rfl, (Kept.refl _ w).alloc _⟩
        · rw [if_neg (by omega)]
          have hsl3 := hsl2 (by omega) (by omega)
          clear hsl2
          have hw : wrap64 (n + 2) = n + 2 := by rw [wrap64]; omega
          have hne : (n + 2 == 0) = false := by simp; omega
          go_enter Tryz.func39, Tryz.ntmps39
          go_wp2_with fail
          refine (c1 _).mono ?_
          rintro e w' ⟨rfl, rfl⟩
          go_wp2_with fail
          refine (c2 _).mono ?_
          rintro e w' ⟨rfl, rfl⟩
          go_wp2_with fail
          refine (hix _).mono ?_
          rintro e w' ⟨rfl, rfl⟩
          go_wp2_with fail
          refine bodyPost_ret (v := .tuple #[aggT ⟨3, s.take (n + 2).toNat⟩, .int .i64 0]) (by simp [results, Tryz.results39, go_sem, aggT]) rfl ⟨rfl, (Kept.refl _ w).alloc _⟩
      · have h39' : ((c.toNat : Int) == 39) = false := u8_ne h39 rfl
        have hf : firstS s = if signN s = 0 then (⟨0, []⟩, 24) else (⟨4, s.take (signN s)⟩, 0) := by unfold firstS; rw [hh, if_neg (by rw [hb1]; decide), if_neg (by rw [hb2]; decide), if_neg h39]
        rw [hf]
        have hsg := fun wx => sign_any s wx hp
        have hle := signN_le s hp
        generalize signN s = n at *
        clear hs hh hf
        by_cases hn : n = 0
        · subst hn
          rw [if_pos rfl]
          go_enter Tryz.func39, Tryz.ntmps39
          go_wp2_with fail
          refine (c1 _).mono ?_
          rintro e w' ⟨rfl, rfl⟩
          go_wp2_with fail
          refine (c2 _).mono ?_
          rintro e w' ⟨rfl, rfl⟩
          go_wp2_with fail
          refine (hsg _).mono ?_
          rintro e w' ⟨rfl, rfl⟩
          go_wp2_with fail
          refine bodyPost_ret (v := .tuple #[aggT ⟨0, []⟩, .int .i64 24]) (by simp [results, Tryz.results39, go_sem, aggT]) rfl ⟨rfl, (Kept.refl _ w).alloc _⟩
        · rw [if_neg hn]
          have hne : ((n : Int) == 0) = false := by simp; omega
          have hsl := fun wx => slice_hi (P := Tryz.prog) 9 Tryz.underlying9 s (n : Int) (by omega) (by omega) wx
          rw [Int.toNat_natCast] at hsl
          go_enter Tryz.func39, Tryz.ntmps39
          go_wp2_with fail
          refine (c1 _).mono ?_
          rintro e w' ⟨rfl, rfl⟩
          go_wp2_with fail
          refine (c2 _).mono ?_
          rintro e w' ⟨rfl, rfl⟩
          go_wp2_with fail
          refine (hsg _).mono ?_
          rintro e w' ⟨rfl, rfl⟩
          go_wp2_with fail
          refine bodyPost_ret (v := .tuple #[aggT ⟨4, s.take n⟩, .int .i64 0]) (by simp [results, Tryz.results39, go_sem, aggT]) rfl ⟨rfl, (Kept.refl _ w).alloc _⟩
end Go.Proofs.YtballmombklalaaGreat

/- lex: is it a token; a text's tokens. -/
namespace Go.Proofs.YtballmombklalaaGreat
open Go.RowKit

theorem cell_up {w : World} {B : Nat} {cs : Array Value} {T : TypeId} {f : Nat × Nat} (h : w.heap[B]? = some (.cells cs T f)) (o : Obj) (i : Nat) : (w.alloc o).cell? ⟨B, i, none⟩ = cs[i]? := by
  rw [cell_of_row (w.alloc o) B i cs T f (Kept.heap ((Kept.refl (fun _ => False) w).alloc o) h (fun q => q))]

section
variable {P : Program} {α : Type} {enc : α → List Value} {sz : Nat} {w : World} {L M : List α} {T : TypeId} {v : Value}
/-- An append of one thing, which lies in block B: as the walk reads it. -/
theorem app_one (t ty : TypeId) (z : Value) (bytes : Nat) (ht : P.underlying t = some (.slice T)) (hi : (P.info? T).map (fun i => (i.zero, i.size, i.bytes)) = some (some z, sz, bytes)) (hzs : z.cells.size = sz) (hsz : 0 < sz)
    (hlen : ∀ x, (enc x).length = sz) (hone : ∀ x, ∀ u ∈ enc x, u.oneCell' = true) (hrow : Row enc sz T w v L) (x : α) (B c : Nat) {T' : TypeId} {f : Nat × Nat} (hB : w.heap[B]? = some (.cells (enc x).toArray T' f))
    (h63 : L.length + 1 ≤ maxLen) (hb : (L.length + 1) * bytes ≤ 140737488355328) :
    ∃ A' c' w', Hid ((Builtin.append_ #[t, t] ty #[v, .slice (some ⟨B, 0, none⟩) 1 c]).run P w = .ok (.slice A' (L.length + 1) c') w') ∧
      Hid (Row enc sz T w' (.slice A' (L.length + 1) c') (L ++ [x]) ∧ Kept (fun j => v.ownBlock = some j) w w' ∧ (∀ j, (Value.slice A' (L.length + 1) c').ownBlock = some j → v.ownBlock = some j ∨ w.heap.size ≤ j)) := by
  obtain ⟨A', c', w', h1, h2, h3, h4⟩ := app_src (P := P) (M := [x]) (N := fun _ => False) t ty z bytes ht hi hzs hsz hlen hone hrow (some ⟨B, 0, none⟩) c (by simp) (Src.one hB (fun q => q)) h63 hb
  rw [List.length_append] at h2
  exact ⟨A', c', w', h1, h2, h3, h4⟩
end

/-- An append whose run is known, at the walk. -/
theorem wpList_run {P : Program} {w w' : World} {v u v' : Value} {ops : Array Oper} {rest : List Oper} {o : Oper} {a : Act} {Q : Exit → Act → World → Prop} (hgd : o.guard = none) (s x : Operand) (t : TypeId)
    (ho : o.op = .call { callee := .builtin .append, args := #[s, x], argTypes := #[t, t] }) (hs : a.eval s = v) (hx : a.eval x = u)
    (hrun : Hid ((Builtin.append_ #[t, t] o.type #[v, u]).run P w = .ok v' w')) (h : wpList P ops Q rest (a.put o.dst v') w') : wpList P ops Q (o :: rest) a w := by
  refine wpList_plain hgd fun K hK => ?_
  unfold Hid at hrun
  unfold Oper.wp execOp
  simp only [ho, resolve, invoke, builtin, Sem.run_bind, Sem.run_pure, Result.andThen_ok, List.map_toArray, List.map_cons, List.map_nil, hs, hx, hrun]
  exact hK _ _ h
theorem step_run {P : Program} {w w' : World} {v u v' : Value} {ops : Array Oper} {o : Oper} {a : Act} {K : Act → World → Prop} {Q : Exit → Act → World → Prop} {E : Prop} (hgd : o.guard = none) (s x : Operand) (t : TypeId)
    (ho : o.op = .call { callee := .builtin .append, args := #[s, x], argTypes := #[t, t] }) (hs : a.eval s = v) (hx : a.eval x = u)
    (hrun : Hid ((Builtin.append_ #[t, t] o.type #[v, u]).run P w = .ok v' w')) (h : K (a.put o.dst v') w') :
    if Region.wanted o (yielded ops a.tmps) = true then Oper.wp P o a w K Q else E := by
  have hw : Region.wanted o (yielded ops a.tmps) = true := by simp [Region.wanted, hgd]
  rw [if_pos hw]
  unfold Hid at hrun
  unfold Oper.wp execOp
  simp only [ho, resolve, invoke, builtin, Sem.run_bind, Sem.run_pure, Result.andThen_ok, List.map_toArray, List.map_cons, List.map_nil, hs, hx, hrun]
  exact h

/-- Is it a token? -/
def mayT (x : Tok) : Bool := !(x.t == []) && (decide ((firstS x.t).2 = 0) && decide ((firstS x.t).1 = x))
theorem may_any (x : Tok) (w : World) (hl : x.t.length ≤ maxLen) :
    Calls Tryz.prog 42 #[aggT x] w fun e w' => e = .returned (.bool (mayT x)) ∧ Kept (fun _ => False) w w' := by
  obtain ⟨k, t⟩ := x
  unfold aggT mayT
  by_cases ht : t = []
  · subst ht
    go_enter Tryz.func42, Tryz.ntmps42
    go_wp2_with fail
    go_ret
    exact ⟨rfl, (Kept.refl _ w).alloc _⟩
  · have hte : (t == []) = false := by simp [ht]
    have hp : 0 < t.length := by cases t with | nil => exact absurd rfl ht | cons a b => simp
    have hf := fun wx => first_any t wx hp hl
    cases hfs : firstS t with
    | mk y e =>
      obtain ⟨k2, t2⟩ := y
      rw [hfs] at hf
      unfold aggT at hf
      by_cases he : e = 0
      · subst he
        by_cases hy : (⟨k2, t2⟩ : Tok) = ⟨k, t⟩
        · injection hy with h1 h2
          subst h1 h2
          clear hfs
          go_enter Tryz.func42, Tryz.ntmps42
          go_wp2_with fail
          refine (hf _).mono ?_
          rintro e w' ⟨rfl, k1⟩
          have e1 := cell_up (Kept.heap k1 (heap_alloc_new w _) (fun q => q)) (.cells #[.int .i64 k2, .string ⟨⟨t2⟩⟩] 96)
          have q0 := e1 0
          have q1 := e1 1
          clear e1
          go_wp2_with fail
          go_ret
          exact ⟨ret_bool (by simp [hte]), (((Kept.refl _ w).alloc _).trans k1).alloc _⟩
        · have hm : Hid ((!(t == []) && (decide ((firstS t).2 = 0) && decide ((firstS t).1 = ⟨k, t⟩))) = false) := by unfold Hid; rw [hte, hfs]; simp [hy]
          clear hfs
          go_enter Tryz.func42, Tryz.ntmps42
          go_wp2_with fail
          refine (hf _).mono ?_
          rintro e w' ⟨rfl, k1⟩
          have e1 := cell_up (Kept.heap k1 (heap_alloc_new w _) (fun q => q)) (.cells #[.int .i64 k2, .string ⟨⟨t2⟩⟩] 96)
          have q0 := e1 0
          have q1 := e1 1
          clear e1
          by_cases hk : k2 = k
          · have ht2 : (t2 == t) = false := by
              simp only [beq_eq_false_iff_ne]
              rintro rfl
              exact hy (by rw [hk])
            subst hk
            clear hy
            go_wp2_with fail
            go_ret
            exact ⟨ret_bool (by simp; intro _ h; rw [h] at ht2; simp at ht2), (((Kept.refl _ w).alloc _).trans k1).alloc _⟩
          · have hk2 : (k2 == k) = false := by simpa using hk
            clear hy hk
            go_wp2_with fail
            go_ret
            exact ⟨ret_bool (by simp; intro _ h; rw [h] at hk2; simp at hk2), (((Kept.refl _ w).alloc _).trans k1).alloc _⟩
      · have hm : Hid ((!(t == []) && (decide ((firstS t).2 = 0) && decide ((firstS t).1 = ⟨k, t⟩))) = false) := by unfold Hid; rw [hte, hfs]; simp [he]
        have he2 : (e == 0) = false := by simpa using he
        clear hfs
        go_enter Tryz.func42, Tryz.ntmps42
        go_wp2_with fail
        refine (hf _).mono ?_
        rintro e w' ⟨rfl, k1⟩
        go_wp2_with fail
        go_ret
        exact ⟨ret_bool (by simp; intro _ h; exact absurd h he), (((Kept.refl _ w).alloc _).trans k1).alloc _⟩

/-- A text's tokens: so many rounds at most; what there is already. -/
def splitF : Nat → List UInt8 → List Tok → List Tok × Int
  | 0, _, acc => (acc, 0)
  | _ + 1, [], acc => (acc, 0)
  | n + 1, c :: q, acc =>
    if c = 32 then splitF n q acc
    else if (firstS (c :: q)).2 = 0 then splitF n ((c :: q).drop (firstS (c :: q)).1.t.length) (acc ++ [(firstS (c :: q)).1])
    else ([], (firstS (c :: q)).2)
def splitS (s : List UInt8) : List Tok × Int := splitF (s.length + 1) s []

theorem first_len {s : List UInt8} (hp : 0 < s.length) (h : (firstS s).2 = 0) : 0 < (firstS s).1.t.length ∧ (firstS s).1.t.length ≤ s.length := by
  unfold firstS at *
  split at h
  · rename_i hb
    rw [if_pos hb]
    exact ⟨tw_pos _ hp (by unfold lodB; rw [hb]; rfl), tw_le _ _⟩
  · rename_i hb
    rw [if_neg hb]
    split at h
    · rename_i hb2
      rw [if_pos hb2]
      exact ⟨tw_pos _ hp hb2, tw_le _ _⟩
    · rename_i hb2
      rw [if_neg hb2]
      split at h
      · rename_i hb3
        rw [if_pos hb3]
        split at h
        · simp at h
        · rename_i hb4
          rw [if_neg hb4]
          have := index_bd (s.drop 1) 39
          have hdl : (s.drop 1).length = s.length - 1 := List.length_drop
          simp only [List.length_take]
          omega
      · rename_i hb3
        rw [if_neg hb3]
        split at h
        · simp at h
        · rename_i hb4
          rw [if_neg hb4]
          have := signN_le s hp
          simp only [List.length_take]
          omega

set_option maxRecDepth 100000 in
theorem split_any (s : List UInt8) (w : World) (hl : s.length ≤ 1048576) :
    Calls Tryz.prog 14 #[.string ⟨⟨s⟩⟩] w fun e w' => ∃ v, e = .returned (.tuple #[v, .int .i64 (splitS s).2]) ∧ Row encT 2 96 w' v (splitS s).1 ∧ (splitS s).1.length ≤ s.length ∧ Kept (fun _ => False) w w' ∧ (∀ j, v.ownBlock = some j → w.heap.size ≤ j) := by
  have hsp : splitS s = splitF (s.length + 1) s [] := rfl
  generalize splitS s = R at *
  generalize hs0 : s.length + 1 = n0 at *
  go_enter Tryz.func14, Tryz.ntmps14
  go_wp2_with fail
  go_step3
  go_wp2_with fail
  go_step3
  go_wp2_with fail
  go_loopg [0, 4] n0 (fun k sv ov wr => ∃ (s' : List UInt8) (acc : List Tok), sv = .string ⟨⟨s'⟩⟩ ∧ s'.length < k ∧ acc.length + s'.length ≤ s.length ∧ splitF k s' acc = R ∧ Row encT 2 96 wr ov acc ∧ (∀ j, ov.ownBlock = some j → w.heap.size ≤ j) ∧ Kept (fun _ => False) w wr)
  case atStart => exact ⟨s, [], rfl, by omega, by simp, hsp.symm, Row.new w, fun j hj => by injection hj with hj; simp only at hj; omega, (Kept.refl _ w).alloc _⟩
  case round =>
    obtain ⟨s', acc, rfl, hk, hlen, hsf, hrow, hown, hkept⟩ := hrel
    obtain ⟨n, rfl⟩ : ∃ n, gk = n + 1 := ⟨gk - 1, by omega⟩
    cases s' with
    | nil =>
      have hR : R = (acc, 0) := hsf.symm
      subst hR
      clear hsf hsp
      go_wp2_with fail
      try rw [Exit.noGoto_ret]
      go_ret2
      exact ⟨_, rfl, hrow, by simp at hlen; omega, hkept, hown⟩
    | cons c q =>
      have h0 : ∀ h, (⟨⟨c :: q⟩⟩ : ByteArray)[0]'h = c := fun _ => rfl
      simp only [List.length_cons] at hk hlen
      by_cases h32 : c = 32
      · have hb : ((c.toNat : Int) == 32) = true := by subst h32; rfl
        have hsl := fun wx => slice_lo (P := Tryz.prog) 9 Tryz.underlying9 (c :: q) 1 (by omega) (by simp only [List.length_cons]; omega) wx
        simp only [Int.toNat_one, List.drop_succ_cons, List.drop_zero] at hsl
        have hsf2 : Hid (splitF n q acc = R) := by rw [← hsf]; unfold Hid; rw [splitF, if_pos h32]
        have hrow2 := hrow
        clear hsf hsp h32
        go_wp2_with fail
        go_roundg n
        case measure => omega
        case rel => exact ⟨q, acc, rfl, by omega, by omega, hsf2, hrow, hown, hkept⟩
      · have hb : ((c.toNat : Int) == 32) = false := u8_ne h32 rfl
        have hf := fun wx => first_any (c :: q) wx (by simp) (by simp only [maxLen, List.length_cons]; omega)
        have hsf2 : (if (firstS (c :: q)).2 = 0 then splitF n ((c :: q).drop (firstS (c :: q)).1.t.length) (acc ++ [(firstS (c :: q)).1]) else ([], (firstS (c :: q)).2)) = R := by rw [← hsf, splitF, if_neg h32]
        have hfl := fun h => first_len (s := c :: q) (by simp) h
        clear hsf hsp h32
        cases hfs : firstS (c :: q) with
        | mk y e =>
          rw [hfs] at hf hsf2 hfl
          obtain ⟨k2, t2⟩ := y
          unfold aggT at hf
          simp only at hf hsf2 hfl
          clear hfs
          by_cases he : e = 0
          · subst he
            rw [if_pos rfl] at hsf2
            obtain ⟨l1, l2⟩ := hfl rfl
            have hsf3 : Hid (splitF n ((c :: q).drop t2.length) (acc ++ [⟨k2, t2⟩]) = R) := hsf2
            clear hsf2 hfl
            simp only [List.length_cons] at l2
            have hsl := fun wx => slice_lo (P := Tryz.prog) 9 Tryz.underlying9 (c :: q) (t2.length : Int) (by omega) (by simp only [List.length_cons]; omega) wx
            rw [Int.toNat_natCast] at hsl
            have hdl : (List.drop t2.length (c :: q)).length = q.length + 1 - t2.length := by rw [List.length_drop, List.length_cons]
            generalize hdd : List.drop t2.length (c :: q) = d at *
            go_wp2_with fail
            refine (hf _).mono ?_
            rintro e w1 ⟨rfl, k1⟩
            obtain ⟨A, cp, hov, _, _⟩ := hrow.shape
            subst hov
            have k2a : Kept (fun _ => False) wr ((w1.alloc (.cells #[.int .i64 k2, .string ⟨⟨t2⟩⟩] 96)).alloc (.cells #[.int .i64 k2, .string ⟨⟨t2⟩⟩] 96)) := (k1.alloc _).alloc _
            obtain ⟨A', c', w2, hrun, hh⟩ := app_one (P := Tryz.prog) (enc := encT) (sz := 2) 44 44 (.agg #[.int .i64 0, .string ByteArray.empty]) 24 Tryz.underlying44 (by kernel_rfl) rfl (by decide) encT_len (by simp [encT, Value.oneCell']) (hrow.same k2a) (⟨k2, t2⟩ : Tok) (w1.heap.size + 1) 1 (by have := heap_alloc_new (w1.alloc (.cells #[.int .i64 k2, .string ⟨⟨t2⟩⟩] 96)) (.cells #[.int .i64 k2, .string ⟨⟨t2⟩⟩] 96); simp only [World.size_alloc] at this; exact this) (by simp [maxLen]; omega) (by omega)
            have hrow' : Hid (Row encT 2 96 wr (Value.slice A acc.length cp) acc) := hrow
            have hown' : Hid (∀ j, (Value.slice A acc.length cp).ownBlock = some j → w.heap.size ≤ j) := hown
            have hdl2 : Hid (d.length = q.length + 1 - t2.length) := hdl
            have hq : w2.cell? ⟨w1.heap.size, 1, none⟩ = some (.string ⟨⟨t2⟩⟩) := hh.2.1.cell (cell_up (heap_alloc_new w1 (.cells #[.int .i64 k2, .string ⟨⟨t2⟩⟩] 96)) _ 1) (fun q => by have h1 := hrow.lt _ q; have h2 := k1.size; simp only at h1; omega)
            have hkk : Hid (Kept (fun _ => False) w w2) := hkept.trans' (k2a.trans' hh.2.1 (fun i _ q => .inl q) (fun i _ q => .inr q) : Kept (fun i => False ∨ (Value.slice A acc.length cp).ownBlock = some i) wr w2) (fun i _ q => q) (fun i hi q => by rcases q with q | q; exact q; exact absurd (hown i q) (by omega))
            have hoo : Hid (∀ j, (Value.slice A' (acc.length + 1) c').ownBlock = some j → w.heap.size ≤ j) := fun j hj => by
              rcases hh.2.2 j hj with q | q
              · exact hown j q
              · have h2 := k2a.size
                have h3 := hkept.size
                omega
            clear hrow hown hdl hdd k2a hrow' hown' k1 hkept
            have tok := True.intro
            go_wp2_with (at_builtin; have _t := tok; refine wpList_run rfl _ _ _ rfl rfl rfl hrun ?_; clear tok)
            go_roundg n
            case measure => omega
            case rel =>
              have hdl3 : d.length = q.length + 1 - t2.length := hdl2
              exact ⟨d, _, rfl, by omega, by rw [List.length_append, List.length_singleton]; omega, hsf3, hh.1, hoo, hkk⟩
          · have he2 : (e == 0) = false := by simpa using he
            rw [if_neg he] at hsf2
            subst hsf2
            clear hfl he
            clear hrow hown
            go_wp2_with fail
            refine (hf _).mono ?_
            rintro e w1 ⟨rfl, k1⟩
            go_wp2_with fail
            try rw [Exit.noGoto_ret]
            go_ret2
            refine ⟨_, rfl, Row.ofNil _, Nat.zero_le _, hkept.trans (k1.alloc _), fun j hj => by cases hj⟩
end Go.Proofs.YtballmombklalaaGreat

/- expr: words, forms. -/
namespace Go.Proofs.YtballmombklalaaGreat
open Go.RowKit

structure Wd where
  c : Int
  n : Int
  t : List UInt8
deriving DecidableEq
def encW (x : Wd) : List Value := [.int .i64 x.c, .int .i64 x.n, .string ⟨⟨x.t⟩⟩]
theorem encW_len (x : Wd) : (encW x).length = 3 := rfl
def aggW (x : Wd) : Value := .agg #[.int .i64 x.c, .int .i64 x.n, .string ⟨⟨x.t⟩⟩]

/-- Is it a word? -/
def wdB (o : Wd) : Bool :=
  if o.c = 1 then o.t == []
  else if o.c = 2 then decide (o.n = 0) && decide (o.t.length ≤ 64)
  else if o.c = 3 then decide (0 ≤ o.n) && (decide (o.n < 8) && o.t == [])
  else decide (0 ≤ takesI o.c) && (decide (o.n = 0) && o.t == [])

set_option maxHeartbeats 1000000 in
theorem word_any (o : Wd) (w : World) : Calls Tryz.prog 54 #[aggW o] w fun e w' => e = .returned (.bool (wdB o)) ∧ Kept (fun _ => False) w w' := by
  obtain ⟨c, n, t⟩ := o
  unfold aggW wdB
  have k0 := fun o => (Kept.refl (fun _ => False) w).alloc o
  by_cases h1 : c = 1
  · subst h1
    go_enter Tryz.func54, Tryz.ntmps54
    go_wp2_with fail
    go_ret
    exact ⟨rfl, k0 _⟩
  · have g1 : (c == 1) = false := by simpa using h1
    rw [if_neg h1]
    by_cases h2 : c = 2
    · subst h2
      go_enter Tryz.func54, Tryz.ntmps54
      go_wp2_with fail
      all_goals go_ret
      all_goals refine ⟨ret_bool ?_, k0 _⟩
      all_goals first | (simp_all; done) | (simp_all; omega) | (simp_all; intros; omega)
    · have g2 : (c == 2) = false := by simpa using h2
      rw [if_neg h2]
      by_cases h3 : c = 3
      · subst h3
        go_enter Tryz.func54, Tryz.ntmps54
        go_wp2_with fail
        all_goals go_ret
        all_goals refine ⟨ret_bool ?_, k0 _⟩
        all_goals first | (simp_all; done) | (simp_all; omega) | (simp_all; intros; omega)
      · have g3 : (c == 3) = false := by simpa using h3
        rw [if_neg h3]
        have ht := fun wx => takes_any c wx
        generalize takesI c = tk at *
        go_enter Tryz.func54, Tryz.ntmps54
        go_wp2_with (refine (ht _).mono ?_; rintro e w' ⟨rfl, rfl⟩)
        all_goals go_ret
        all_goals refine ⟨ret_bool ?_, k0 _⟩
        all_goals first | (simp_all; done) | (simp_all; omega) | (simp_all; intros; omega)

/-- How high the answers stand behind words, if they stand. -/
def hiF : List Wd → Int → Option Int
  | [], h => some h
  | o :: r, h => if wdB o = true ∧ takesI o.c ≤ h then hiF r (h + (1 - takesI o.c)) else none
/-- What is wrong with an expression's form. -/
def formI (x : List Wd) : Int := if 64 < x.length then 6 else if hiF x 0 = some 1 then 0 else 18

theorem takes_bd (c : Int) : -1 ≤ takesI c ∧ takesI c ≤ 2 := by unfold takesI; (repeat' split) <;> omega
theorem wd_takes {o : Wd} (h : wdB o = true) : 0 ≤ takesI o.c := by
  unfold wdB at h
  split at h
  · rename_i h1; rw [h1]; decide
  · split at h
    · rename_i h1; rw [h1]; decide
    · split at h
      · rename_i h1; rw [h1]; decide
      · simp at h; exact h.1

theorem Src.cells3 {w : World} {N : Nat → Prop} {A : Option Addr} {L : List Wd} (h : Src encW 3 w N A L) {i : Nat} {o : Wd} (hi : L[i]? = some o) :
    ∃ b off, A = some ⟨b, off, none⟩ ∧ ¬ N b ∧ w.cell? ⟨b, off + i * 3, none⟩ = some (.int .i64 o.c) ∧ w.cell? ⟨b, off + i * 3 + 1, none⟩ = some (.int .i64 o.n) ∧ w.cell? ⟨b, off + i * 3 + 2, none⟩ = some (.string ⟨⟨o.t⟩⟩) := by
  obtain ⟨b, off, e, hb, hc⟩ := h i o hi
  exact ⟨b, off, e, hb, hc 0 _ rfl, hc 1 _ rfl, hc 2 _ rfl⟩

set_option maxRecDepth 100000 in
theorem form_any (L : List Wd) (A : Option Addr) (cap : Nat) (w : World) (h : Src encW 3 w (fun _ => False) A L) (hm : L.length ≤ maxLen) :
    Calls Tryz.prog 22 #[.slice A L.length cap] w fun e w' => e = .returned (.int .i64 (formI L)) ∧ Kept (fun _ => False) w w' := by
  unfold maxLen at hm
  by_cases h64 : 64 < L.length
  · have hf : formI L = 6 := by unfold formI; rw [if_pos h64]
    rw [hf]
    have hb : decide (64 < (L.length : Int)) = true := by simp; omega
    go_enter Tryz.func22, Tryz.ntmps22
    go_wp2_with fail
    go_ret
    exact ⟨rfl, Kept.refl _ w⟩
  · have hb : decide (64 < (L.length : Int)) = false := by simp; omega
    have hf : formI L = if hiF L 0 = some 1 then 0 else 18 := by unfold formI; rw [if_neg h64]
    rw [hf]
    clear hf
    generalize hR : hiF L 0 = R
    generalize hF0 : (if R = some 1 then (0 : Int) else 18) = F
    have hF : Hid ((if R = some 1 then (0 : Int) else 18) = F) := hF0
    clear hF0
    go_enter Tryz.func22, Tryz.ntmps22
    go_wp2_with fail
    go_loopg [3, 11] L.length (fun k hv iv wr => ∃ (n : Nat) (hi : Int), n + k = L.length ∧ iv = .int .i64 n ∧ hv = .int .i64 hi ∧ 0 ≤ hi ∧ hi ≤ n ∧ hiF (L.drop n) hi = R ∧ Kept (fun _ => False) w wr)
    case atStart => exact ⟨0, 0, by omega, rfl, rfl, by omega, by omega, hR, Kept.refl _ w⟩
    case round =>
      obtain ⟨n, hi, hk, rfl, rfl, b1, b2, hsf, hkept⟩ := hrel
      by_cases hlt : n < L.length
      · obtain ⟨o, ho⟩ : ∃ o, L[n]? = some o := ⟨L[n], List.getElem?_eq_getElem hlt⟩
        have hdr : L.drop n = o :: L.drop (n + 1) := by
          rw [List.drop_eq_getElem_cons hlt]
          congr 1
          rw [List.getElem?_eq_getElem hlt] at ho
          injection ho
        rw [hdr, hiF] at hsf
        obtain ⟨b, off, hA, _, x0, x1, x2⟩ := (h.same hkept).cells3 ho
        subst hA
        have hw := fun wx => word_any o wx
        have ht := fun wx => takes_any o.c wx
        have htb := takes_bd o.c
        obtain ⟨oc, on, ot⟩ := o
        unfold aggW at hw
        simp only at hw ht htb hsf x0 x1 x2
        have k0 : Kept (fun _ => False) w (wr.alloc (.cells #[.int .i64 oc, .int .i64 on, .string ⟨⟨ot⟩⟩] 62)) := hkept.alloc _
        clear hdr ho
        cases hwb : wdB ⟨oc, on, ot⟩ with
        | false =>
          rw [hwb] at hw hsf
          rw [if_neg (by simp)] at hsf
          subst hsf
          have hF18 : Hid (F = 18) := hF.symm
          clear hwb
          go_wp2_with fail
          refine (hw _).mono ?_
          rintro e w' ⟨rfl, k1⟩
          go_wp2_with fail
          go_ret
          exact ⟨ret_int hF18.symm, k0.trans k1⟩
        | true =>
          have htk := wd_takes hwb
          simp only at htk
          rw [hwb] at hw hsf
          by_cases hle : takesI oc ≤ hi
          · rw [if_pos ⟨rfl, hle⟩] at hsf
            have hsf2 : Hid (hiF (L.drop (n + 1)) (hi + (1 - takesI oc)) = R) := hsf
            clear hwb hsf
            generalize takesI oc = tk at *
            have hnl : decide (hi < tk) = false := by simp; omega
            go_wp2_with fail
            refine (hw _).mono ?_
            rintro e w' ⟨rfl, k1⟩
            have q0 := cell_of_row w' wr.heap.size 0 _ _ _ (k1.heap (heap_alloc_new wr _) (fun q => q))
            simp only [List.getElem?_toArray, List.getElem?_cons_zero] at q0
            go_wp2_with fail
            refine (ht _).mono ?_
            rintro e w2 ⟨rfl, rfl⟩
            go_wp2_with fail
            refine (ht _).mono ?_
            rintro e w2 ⟨rfl, rfl⟩
            go_wp2_with fail
            go_roundg (gk - 1)
            case measure => omega
            case rel =>
              have e1 : wrap64 (hi + wrap64 (1 - tk)) = hi + (1 - tk) := by simp only [wrap64]; omega
              exact ⟨n + 1, hi + (1 - tk), by omega, int_eq (by omega), int_eq (by first | exact e1 | omega), by omega, by omega, hsf2, k0.trans k1⟩
          · rw [if_neg (fun q => hle q.2)] at hsf
            subst hsf
            have hF18 : Hid (F = 18) := hF.symm
            clear hwb
            generalize takesI oc = tk at *
            have hnl : decide (hi < tk) = true := by simp; omega
            go_wp2_with fail
            refine (hw _).mono ?_
            rintro e w' ⟨rfl, k1⟩
            have q0 := cell_of_row w' wr.heap.size 0 _ _ _ (k1.heap (heap_alloc_new wr _) (fun q => q))
            simp only [List.getElem?_toArray, List.getElem?_cons_zero] at q0
            go_wp2_with fail
            refine (ht _).mono ?_
            rintro e w2 ⟨rfl, rfl⟩
            go_wp2_with fail
            go_ret
            exact ⟨ret_int hF18.symm, k0.trans k1⟩
      · have e : n = L.length := by omega
        subst e
        rw [List.drop_length, hiF] at hsf
        subst hsf
        by_cases h1 : hi = 1
        · have hF1 : Hid (F = 0) := by rw [h1] at hF; exact hF.symm
          have h1' : (hi == 1) = true := by simpa using h1
          subst h1
          go_wp2_with fail
          go_ret
          exact ⟨ret_int hF1.symm, hkept⟩
        · have h1' : (hi == 1) = false := by simpa using h1
          have hF1 : Hid (F = 18) := by unfold Hid at hF ⊢; rw [if_neg (by simpa using h1)] at hF; exact hF.symm
          clear h1
          go_wp2_with fail
          go_ret
          exact ⟨ret_int hF1.symm, hkept⟩
end Go.Proofs.YtballmombklalaaGreat
