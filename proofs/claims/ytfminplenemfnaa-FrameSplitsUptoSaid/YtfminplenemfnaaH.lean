/- Wrap, of the program and of the reference. -/
import Derived.Test.YtfminplenemfnaaG
namespace Go.Proofs.Ytfminplenemfnaa
open Go.RowKit

/-- v is nil or empty, or it reads as the bytes l, in block g. -/
def SlA (w : World) (g : Nat) (v : Value) (l : List Int) : Prop := (v = .slice none 0 0 ∧ l = []) ∨ (∃ a cap, v = .slice (some a) 0 cap ∧ l = []) ∨ Sl w g v l
theorem SlA.toN {w : World} {g : Nat} {v : Value} {l : List Int} (h : SlA w g v l) : SlN w g v l := by
  rcases h with ⟨rfl, rfl⟩ | ⟨a, cap, rfl, rfl⟩ | ⟨o, cap, rfl, hc, _, hx⟩
  · exact ⟨none, 0, rfl, Nat.le_refl _, fun q => absurd rfl q⟩
  · exact ⟨some a, cap, rfl, Nat.zero_le _, fun q => absurd rfl q⟩
  · exact ⟨_, cap, rfl, hc, fun _ => ⟨o, rfl, hx⟩⟩
theorem SlA.kept {S : Nat → Prop} {w w' : World} {g : Nat} {v : Value} {l : List Int} (h : SlA w g v l) (k : Kept S w w') (hn : ¬ S g) : SlA w' g v l := h.imp id (fun q => q.imp id (fun q => q.kept k hn))

def wrapped (l : List Int) : List Int := [(l.length : Int) / 256, (l.length : Int) % 256] ++ l

/-- A new row of bytes is returned, and nothing that was there has changed. -/
def NewRow (v : Value) (l : List Int) (w w' : World) : Prop := OR w' v l ∧ Kept (fun _ => False) w w' ∧ ∀ k, v.ownBlock = some k → w.heap.size ≤ k

theorem wrap_long (w : World) (g : Nat) (v : Value) (l : List Int) (hv : SlA w g v l) (hl : 4096 < l.length) :
    Calls Try.prog 7 #[v] w fun e w' => e = .returned (.tuple #[.slice none 0 0, .int .i64 6]) ∧ w' = w := by
  obtain ⟨A, cap, rfl, hcap, hx⟩ := hv.toN
  have hl2 : (4096 : Int) < (l.length : Int) := by omega
  clear hx hv
  generalize l.length = n at *
  go_enter Try.func7, Try.ntmps7
  go_wp2
  go_ret2
  exact ⟨rfl, rfl⟩

theorem OR.of_row {w : World} {base : Nat} {v : Value} {l : List Int} (h : w.ownsRow base 5 1 v l.length (u8s l)) : OR w v l :=
  ⟨h.1, h.2.imp id (fun ⟨g, cap, cur, h1, _, r⟩ => ⟨g, cap, cur, h1, Nat.zero_le _, r⟩)⟩

theorem two_get {w : World} (x y : Int) : ∀ j u, [x, y][j]? = some u → (w.alloc (.cells #[.int .u8 x, .int .u8 y] 5)).cell? ⟨w.heap.size, 0 + j, none⟩ = some (.int .u8 u) := by
  intro j u hj
  match j, hj with
  | 0, hj => injection hj with hj; subst hj; simp
  | 1, hj => injection hj with hj; subst hj; simp

theorem NewOr.ge {w w1 : World} {v v' : Value} (h : NewOr w1 v v') (hv : ∀ k, v.ownBlock = some k → w.heap.size ≤ k) (hw : w.heap.size ≤ w1.heap.size) : ∀ k, v'.ownBlock = some k → w.heap.size ≤ k := by
  intro k hk
  rcases h with e | ⟨k', e, hk'⟩
  · exact hv k (by rw [← e]; exact hk)
  · rw [hk] at e
    injection e with e
    omega

set_option maxHeartbeats 2000000 in
theorem wrap_short (w : World) (g : Nat) (v : Value) (l : List Int) (hv : SlA w g v l) (hl : l.length ≤ 4096) :
    Calls Try.prog 7 #[v] w fun e w' => ∃ vO, e = .returned (.tuple #[vO, .int .i64 0]) ∧ NewRow vO (wrapped l) w w' := by
  have hl2 : ¬ (4096 : Int) < (l.length : Int) := by omega
  obtain ⟨i0, hi, hz0, hz1, hz2⟩ := info_parts Try.info5
  rcases hv with ⟨rfl, rfl⟩ | ⟨a, cap, rfl, rfl⟩ | ⟨o, cap, rfl, hcap, hg, hx⟩
  · go_enter Try.func7, Try.ntmps7
    go_wp2_with (first
      | (at_make; refine wpList_make_own _ rfl _ _ 22 rfl w.heap.size 5 i0 (.int .u8 0) 1 Try.underlying22 hi hz0 hz1 .i64 .i64 _ (2) rfl rfl (by omega) (by rw [hz2]; omega) (by unfold maxLen; omega) (Nat.le_refl _) ?_; intro w0 hown0 hgrow0
         have hr0 := OR.of_row (l := []) hown0
         have k0 := (Kept.refl (fun _ => False) w).grown hgrow0 (fun _ hk => by cases hk))
      | (at_builtin; refine wpList_append_u8 _ rfl _ _ rfl (.slice (some ⟨w.heap.size, 0, Option.none⟩) 0 (2)) [] rfl (hr0.kept ((Kept.refl (fun _ => False) w0).alloc _) (fun _ _ q => q)) w0.heap.size 0 2 2 [0, 0] rfl rfl (two_get _ _) (by simp) ?_; intro v1 w1 r1 g1 n1
         have k1 := (k0.alloc _).grown g1 (fun k hk hlt => by injection hk with hk; simp only at hk; omega)
         have j1 := n1.ge (w := w) (fun k hk => by injection hk with hk; simp only at hk; omega) (k0.alloc _).size
         simp only [List.nil_append] at r1)
      | (at_builtin; refine wpList_append_u8_nil _ rfl _ _ rfl v1 [0, 0] rfl r1 rfl ?_))
    go_ret2
    exact ⟨_, rfl, r1, k1, j1⟩
  · go_enter Try.func7, Try.ntmps7
    go_wp2_with (first
      | (at_make; refine wpList_make_own _ rfl _ _ 22 rfl w.heap.size 5 i0 (.int .u8 0) 1 Try.underlying22 hi hz0 hz1 .i64 .i64 _ (2) rfl rfl (by omega) (by rw [hz2]; omega) (by unfold maxLen; omega) (Nat.le_refl _) ?_; intro w0 hown0 hgrow0
         have hr0 := OR.of_row (l := []) hown0
         have k0 := (Kept.refl (fun _ => False) w).grown hgrow0 (fun _ hk => by cases hk))
      | (at_builtin; refine wpList_append_u8 _ rfl _ _ rfl (.slice (some ⟨w.heap.size, 0, Option.none⟩) 0 (2)) [] rfl (hr0.kept ((Kept.refl (fun _ => False) w0).alloc _) (fun _ _ q => q)) w0.heap.size 0 2 2 [0, 0] rfl rfl (two_get _ _) (by simp) ?_; intro v1 w1 r1 g1 n1
         have k1 := (k0.alloc _).grown g1 (fun k hk hlt => by injection hk with hk; simp only at hk; omega)
         have j1 := n1.ge (w := w) (fun k hk => by injection hk with hk; simp only at hk; omega) (k0.alloc _).size
         simp only [List.nil_append] at r1)
      | (at_builtin; refine wpList_append_u8_zero _ rfl _ _ rfl v1 [0, 0] rfl r1 a cap rfl (by simp) ?_; intro v2 w2 r2 g2 n2
         have k2 := k1.grown g2 (fun k hk hlt => absurd (j1 k hk) (by omega))
         have j2 := n2.ge (w := w) j1 k1.size))
    go_ret2
    exact ⟨_, rfl, r2, k2, j2⟩
  · go_enter Try.func7, Try.ntmps7
    go_wp2_with (first
      | (at_make; refine wpList_make_own _ rfl _ _ 22 rfl w.heap.size 5 i0 (.int .u8 0) 1 Try.underlying22 hi hz0 hz1 .i64 .i64 _ (l.length + 2) rfl rfl (by omega) (by rw [hz2]; omega) (by unfold maxLen; omega) (Nat.le_refl _) ?_; intro w0 hown0 hgrow0
         have hr0 := OR.of_row (l := []) hown0
         have k0 := (Kept.refl (fun _ => False) w).grown hgrow0 (fun _ hk => by cases hk))
      | (at_builtin; refine wpList_append_u8 _ rfl _ _ rfl (.slice (some ⟨w.heap.size, 0, Option.none⟩) 0 (l.length + 2)) [] rfl (hr0.kept ((Kept.refl (fun _ => False) w0).alloc _) (fun _ _ q => q)) w0.heap.size 0 2 2 [(l.length : Int) / 256, (l.length : Int) % 256] rfl rfl (two_get _ _) (by simp) ?_; intro v1 w1 r1 g1 n1
         have k1 := (k0.alloc _).grown g1 (fun k hk hlt => by injection hk with hk; simp only at hk; omega)
         have j1 := n1.ge (w := w) (fun k hk => by injection hk with hk; simp only at hk; omega) (k0.alloc _).size
         simp only [List.nil_append] at r1)
      | (at_builtin; refine wpList_append_u8 _ rfl _ _ rfl v1 [(l.length : Int) / 256, (l.length : Int) % 256] rfl r1 g o cap l.length l rfl rfl (fun j u hj => k1.cell (p := ⟨g, o + j, Option.none⟩) (hx j u hj) (fun q => q)) (by simp only [List.length_cons, List.length_nil]; omega) ?_; intro v2 w2 r2 g2 n2
         have k2 := k1.grown g2 (fun k hk hlt => absurd (j1 k hk) (by omega))
         have j2 := n2.ge (w := w) j1 k1.size))
    go_ret2
    exact ⟨_, rfl, r2, k2, j2⟩

theorem two_row (w : World) (x y : Int) : OR (w.alloc (.cells #[.int .u8 x, .int .u8 y] 5)) (.slice (some ⟨w.heap.size, 0, none⟩) 2 2) [x, y] :=
  World.ownsRow_lit w #[.int .u8 x, .int .u8 y] 2 (Nat.zero_le _) (by unfold maxLen; omega) rfl

set_option maxHeartbeats 2000000 in
theorem refwrap_any (w : World) (g : Nat) (v : Value) (l : List Int) (hv : SlA w g v l) (hl : l.length ≤ 4096) :
    Calls Try.prog 9 #[v] w fun e w' => ∃ vO, e = .returned vO ∧ NewRow vO (wrapped l) w w' := by
  rcases hv with ⟨rfl, rfl⟩ | ⟨a, cap, rfl, rfl⟩ | ⟨o, cap, rfl, hcap, hg, hx⟩
  · go_enter Try.func9, Try.ntmps9
    go_wp2_with (at_builtin; refine wpList_append_u8_nil _ rfl _ _ rfl _ [0, 0] rfl (two_row w 0 0) rfl ?_)
    go_ret
    exact ⟨_, rfl, two_row w 0 0, (Kept.refl _ w).alloc _, fun k hk => by injection hk with hk; simp only at hk; omega⟩
  · go_enter Try.func9, Try.ntmps9
    go_wp2_with (at_builtin; refine wpList_append_u8_zero _ rfl _ _ rfl _ [0, 0] rfl (two_row w 0 0) a cap rfl (by simp) ?_; intro v2 w2 r2 g2 n2)
    go_ret
    have hb : ∀ k, (Value.slice (some (⟨w.heap.size, 0, none⟩ : Addr)) 2 2).ownBlock = some k → w.heap.size ≤ k := fun k hk => by injection hk with hk; simp only at hk; omega
    exact ⟨_, rfl, r2, ((Kept.refl _ w).alloc _).grown g2 (fun k hk hlt => absurd (hb k hk) (by omega)), n2.ge (w := w) hb (by simp)⟩
  · go_enter Try.func9, Try.ntmps9
    go_wp2_with (at_builtin; refine wpList_append_u8 _ rfl _ _ rfl _ [(l.length : Int) / 256, (l.length : Int) % 256] rfl (two_row w _ _) g o cap l.length l rfl rfl (fun j u hj => Kept.cell ((Kept.refl (fun _ => False) w).alloc _) (p := ⟨g, o + j, Option.none⟩) (hx j u hj) (fun q => q)) (by simp only [List.length_cons, List.length_nil]; omega) ?_; intro v2 w2 r2 g2 n2)
    go_ret
    have hb : ∀ k, (Value.slice (some (⟨w.heap.size, 0, none⟩ : Addr)) 2 2).ownBlock = some k → w.heap.size ≤ k := fun k hk => by injection hk with hk; simp only at hk; omega
    exact ⟨_, rfl, r2, ((Kept.refl _ w).alloc _).grown g2 (fun k hk hlt => absurd (hb k hk) (by omega)), n2.ge (w := w) hb (by simp)⟩
end Go.Proofs.Ytfminplenemfnaa
