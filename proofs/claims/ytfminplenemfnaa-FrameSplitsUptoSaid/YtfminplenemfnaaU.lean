/- The reference's frames of bytes. -/
import Derived.Test.YtfminplenemfnaaT
namespace Go.Proofs.Ytfminplenemfnaa
open Go.RowKit

/-- v is a row of the reference's frames. -/
def FQ (w : World) (v : Value) (vs : List (Value × Int)) : Prop := w.ownsRow 0 49 2 v vs.length (frow vs)
theorem FQ.kept {S : Nat → Prop} {w w' : World} {v : Value} {vs : List (Value × Int)} (h : FQ w v vs) (k : Kept S w w') (hn : ∀ g, v.ownBlock = some g → ¬ S g) : FQ w' v vs := by
  obtain ⟨h1, h2⟩ := h
  refine ⟨h1, ?_⟩
  rcases h2 with h2 | ⟨g, cap, cur, rfl, hb, hg, r⟩
  · exact .inl h2
  · exact .inr ⟨g, cap, cur, rfl, hb, k.heap hg (hn g rfl), r⟩
theorem FQ.shape {w : World} {v : Value} {vs : List (Value × Int)} (h : FQ w v vs) : ∃ a c, v = .slice a vs.length c := by
  rcases h.2 with ⟨rfl, hn⟩ | ⟨g, cap, cur, rfl, _⟩
  · exact ⟨none, 0, by rw [hn]⟩
  · exact ⟨_, _, rfl⟩
theorem FQ.cells {w : World} {v : Value} {vs : List (Value × Int)} (h : FQ w v vs) (hn : vs ≠ []) : ∃ g cap, v = .slice (some ⟨g, 0, none⟩) vs.length cap ∧ vs.length ≤ cap ∧
    ∀ (i : Nat) (p : Value × Int), vs[i]? = some p → w.cell? ⟨g, i * 2, none⟩ = some p.1 ∧ w.cell? ⟨g, i * 2 + 1, none⟩ = some (.int .i64 p.2) := by
  have h' := h
  rcases h'.2 with ⟨_, hz⟩ | ⟨g, cap, cur, rfl, _, _, hc, _⟩
  · exact absurd (List.eq_nil_of_length_eq_zero hz) hn
  · refine ⟨g, cap, rfl, hc, fun i p hp => ?_⟩
    have hi : i < vs.length := (List.getElem?_eq_some_iff.1 hp).1
    obtain ⟨e0, e1⟩ := frow_get vs i p hp
    exact ⟨by rw [World.ownsRow.cellAt h (i * 2) (by omega)]; exact e0, by rw [World.ownsRow.cellAt h (i * 2 + 1) (by omega)]; exact e1⟩

theorem Try.info49 : (Try.prog.info? 49).map (fun i => (i.zero, i.size, i.bytes)) = some (some (.agg #[.slice none 0 0, .int .i64 0]), 2, 32) := by kernel_rfl

/-- What holds at the head of All's loop: l2 is left of l. -/
structure AllI (w : World) (g : Nat) (l : List Int) (k : Nat) (s0 s4 : Value) (wr : World) (l2 : List Int) (us : List (Value × Int)) (fs : List (List Int × Int)) : Prop where
  left : SlN wr g s0 l2
  count : l2.length = k
  bl : Bytes l2
  row : FQ wr s4 us
  own : ∀ j, s4.ownBlock = some j → w.heap.size ≤ j
  fits : Fits wr (fun j => w.heap.size ≤ j) us fs
  all : fs ++ (parse l2).1 = (parse l).1
  rest : (parse l2).2 = (parse l).2
  kept : Kept (fun _ => False) w wr
  small : us.length + l2.length ≤ l.length
  far : l2 ≠ [] → g < w.heap.size

/-- What All returns. -/
def PostAll (w : World) (l : List Int) (e : Ending) (w' : World) : Prop :=
  ∃ vQ us, e = .returned (.tuple #[vQ, .int .i64 (parse l).2.length]) ∧ FQ w' vQ us ∧ Fits w' (fun _ => False) us (parse l).1 ∧ Kept (fun _ => False) w w'

theorem AllI.done {w : World} {g : Nat} {l : List Int} {k : Nat} {s0 s4 : Value} {wr : World} {l2 : List Int} {us : List (Value × Int)} {fs : List (List Int × Int)} (I : AllI w g l k s0 s4 wr l2 us fs) (ho : Opn l2) :
    (parse l).2 = l2 ∧ Fits wr (fun _ => False) us (parse l).1 := by
  have hp := parse_opn ho
  have ha := I.all
  have hr := I.rest
  rw [hp] at ha hr
  simp only [List.append_nil] at ha hr
  exact ⟨hr.symm, ha ▸ I.fits.kept (Kept.refl (fun _ => False) wr) (fun _ _ q => q.elim) (fun _ _ q => q.elim)⟩

theorem AllI.go {w : World} {g : Nat} {l : List Int} {k : Nat} {s0 s4 : Value} {wr : World} {l2 : List Int} {us : List (Value × Int)} {fs : List (List Int × Int)} (I : AllI w g l k s0 s4 wr l2 us fs) {d : Nat} (h2 : 2 ≤ l2.length) (hd : wantN l2 = d) (hl : 2 + d ≤ l2.length)
    {o : Obj} {x : Value} {v' : Value} {w' : World} {A' : Option Addr} {n' cap' : Nat} (hrow : FQ w' v' (us ++ [(x, (fr (l2.take (2 + d))).2)])) (hgr : (wr.alloc o).grownBy w' s4.ownBlock) (hnew : NewOr (wr.alloc o) s4 v')
    (hx : FrOK wr (fun j => w.heap.size ≤ j) x (fr (l2.take (2 + d))).1) (hleft : SlN wr g (.slice A' n' cap') (l2.drop (2 + d))) :
    AllI w g l (l2.length - (2 + d)) (.slice A' n' cap') v' w' (l2.drop (2 + d)) (us ++ [(x, (fr (l2.take (2 + d))).2)]) (fs ++ [fr (l2.take (2 + d))]) := by
  have K1 : Kept (fun j => s4.ownBlock = some j) wr w' := ((Kept.refl _ wr).alloc o).grown hgr (fun j hj _ => hj)
  have K2 : Kept (fun _ => False) w w' := I.kept.trans' K1 (fun _ _ q => q) (fun j hj q => by have := I.own j q; omega)
  have hparse : parse l2 = (fr (l2.take (2 + d)) :: (parse (l2.drop (2 + d))).1, (parse (l2.drop (2 + d))).2) := by
    rw [parse, dif_pos ⟨h2, by omega⟩, hd]
  have hne : l2 ≠ [] := fun q => by rw [q] at h2; simp at h2
  refine ⟨?_, by rw [List.length_drop], I.bl.drop _, hrow, ?_, ?_, ?_, ?_, K2, ?_, fun _ => I.far hne⟩
  · exact hleft.kept K1 (fun q => by have := I.own g q; have := I.far hne; omega)
  · intro j hj
    have hsz : w.heap.size ≤ (wr.alloc o).heap.size := by have := I.kept.size; simp; omega
    exact hnew.ge I.own hsz j hj
  · have f1 := I.fits.kept (N' := fun j => w.heap.size ≤ j) K1 (fun j _ q => I.own j q) (fun _ _ q => q)
    exact f1.snoc x _ _ (hx.kept K1 (fun j _ q => I.own j q) (fun _ _ q => q))
  · have ha := I.all
    rw [hparse] at ha
    rw [← ha, List.append_assoc]
    rfl
  · have hr := I.rest
    rw [hparse] at hr
    exact hr
  · have := I.small
    simp only [List.length_append, List.length_cons, List.length_nil, List.length_drop]
    omega

theorem AllI.drewN {w : World} {g : Nat} {l : List Int} {k : Nat} {s0 s4 : Value} {wr : World} {l2 : List Int} {us : List (Value × Int)} {fs : List (List Int × Int)} (I : AllI w g l k s0 s4 wr l2 us fs) (n : Nat) : AllI w g l k s0 s4 (wr.drewN n) l2 us fs :=
  ⟨I.left, I.count, I.bl, I.row, I.own, I.fits, I.all, I.rest, I.kept.drewN n, I.small, I.far⟩

theorem wantI_take {l2 : List Int} (h2 : 2 ≤ l2.length) (d : Nat) : wantI (l2.take (2 + d)) = wantI l2 := by
  match l2, h2 with
  | a :: b :: t, _ => rw [Nat.add_comm]; rfl
theorem fr_small {l2 : List Int} {d : Nat} (hw : wantI l2 = d) (h2 : 2 ≤ l2.length) (hd : d ≤ 4096) : fr (l2.take (2 + d)) = ((l2.take (2 + d)).drop 2, 0) := by
  unfold fr bodyOf
  rw [wantI_take h2, hw, if_pos (by omega), if_neg (by omega)]
theorem fr_big {l2 : List Int} {d : Nat} (hw : wantI l2 = d) (h2 : 2 ≤ l2.length) (hd : 4096 < d) : fr (l2.take (2 + d)) = ([], 6) := by
  unfold fr bodyOf
  rw [wantI_take h2, hw, if_neg (by omega), if_pos (by omega)]

section
variable {w wr : World} {g o2 cap2 d : Nat} {l2 : List Int} (hx : ∀ i x, l2[i]? = some x → wr.cell? ⟨g, o2 + i, none⟩ = some (.int .u8 x)) (hcap : l2.length ≤ cap2) (hl : 2 + d ≤ l2.length)
include hx hcap hl
theorem left_at : SlN wr g (.slice (some ⟨g, o2 + (2 + d), none⟩) (l2.length - (2 + d)) (cap2 - (2 + d))) (l2.drop (2 + d)) := by
  refine ⟨_, cap2 - (2 + d), by rw [List.length_drop], by rw [List.length_drop]; omega, fun _ => ⟨_, rfl, fun i x hi => ?_⟩⟩
  rw [List.getElem?_drop] at hi
  rw [Nat.add_assoc]
  exact hx _ x hi
omit hx in
theorem left_end (A : Option Addr) (c : Nat) (hc : cap2 = 2 + d) : SlN wr g (.slice A (l2.length - (2 + d)) c) (l2.drop (2 + d)) := by
  have h0 : l2.drop (2 + d) = [] := List.drop_eq_nil_of_le (by omega)
  rw [h0]
  refine ⟨A, c, ?_, Nat.zero_le _, fun q => absurd rfl q⟩
  congr 1
  simp only [List.length_nil]
  omega
theorem body_at (hg : ¬ w.heap.size ≤ g) (hs : g < wr.heap.size) : FrOK wr (fun j => w.heap.size ≤ j) (.slice (some ⟨g, o2 + 2, none⟩) d (cap2 - 2)) ((l2.take (2 + d)).drop 2) := by
  have hlen : ((l2.take (2 + d)).drop 2).length = d := by rw [List.length_drop, List.length_take]; omega
  refine .inr ⟨g, hg, o2 + 2, cap2 - 2, by rw [hlen], by omega, hs, fun i x hi => ?_⟩
  rw [List.getElem?_drop] at hi
  rw [Nat.add_assoc]
  exact hx _ x (take_get hi)
omit hx in
theorem body_end (A : Addr) (c : Nat) (hA : A = ⟨g, o2, none⟩) (hc : cap2 = 2) (hg : ¬ w.heap.size ≤ g) (hs : g < wr.heap.size) : FrOK wr (fun j => w.heap.size ≤ j) (.slice (some A) d c) ((l2.take (2 + d)).drop 2) := by
  have h0 : (l2.take (2 + d)).drop 2 = [] := List.drop_eq_nil_of_le (by rw [List.length_take]; omega)
  have hd0 : d = 0 := by omega
  rw [h0]
  subst hA hd0
  exact .inr ⟨g, hg, o2, c, rfl, Nat.zero_le _, hs, fun i x hi => by cases hi⟩
end

theorem ret_held {x : Value} {a b : Int} (h : a = b) : Ending.returned (.tuple #[x, .int .i64 a]) = .returned (.tuple #[x, .int .i64 b]) := by rw [h]

set_option maxHeartbeats 4000000 in
theorem all_any (w : World) (g : Nat) (v : Value) (l : List Int) (hv : SlN w g v l) (bl : Bytes l) (hlen : l.length ≤ 4398046510000) : Calls Try.prog 12 #[v] w (PostAll w l) := by
  have hfar : l ≠ [] → g < w.heap.size := by
    intro hn
    obtain ⟨_, _, _, _, hx⟩ := hv
    obtain ⟨o, _, hx⟩ := hx hn
    cases l with
    | nil => exact absurd rfl hn
    | cons a l => exact World.block_lt_of_cell? (a := ⟨g, o + 0, none⟩) w (hx 0 a rfl)
  have hk0 : Kept (fun _ => False) w (w.alloc (.cells #[] 49)) := (Kept.refl _ _).alloc _
  have hI0 : AllI w g l l.length v (.slice (some ⟨w.heap.size, 0, none⟩) 0 0) (w.alloc (.cells #[] 49)) l [] [] := by
    refine ⟨hv.kept hk0 (fun q => q), rfl, bl, World.ownsRow_lit w #[] 0 (Nat.zero_le _) (Nat.zero_le _) rfl, ?_, Fits.nil _ _, rfl, rfl, hk0, by simp, hfar⟩
    rintro j hj
    injection hj with hj
    rw [← hj]
    exact Nat.le_refl _
  obtain ⟨A, cap, rfl⟩ : ∃ A cap, v = .slice A l.length cap := by obtain ⟨A, cap, h1, _⟩ := hv; exact ⟨A, cap, h1⟩
  clear hv
  go_enter Try.func12, Try.ntmps12
  go_wp2
  go_loopg [0, 4] l.length (fun k s0 s4 wr => ∃ l2 us fs, AllI w g l k s0 s4 wr l2 us fs)
  case atStart => exact ⟨_, _, _, hI0⟩
  case round =>
    clear hI0 hk0
    obtain ⟨l2, us, fs, I⟩ := hrel
    obtain ⟨A2, cap2, rfl, hcap2, hx2⟩ := I.left
    obtain ⟨aO, cO, hO⟩ := I.row.shape
    subst hO
    have hsm := I.small
    by_cases h2 : l2.length < 2
    · have h2i : ¬ (2 : Int) ≤ (l2.length : Int) := by omega
      obtain ⟨e1, e2⟩ := I.done (.inl h2)
      clear hx2
      go_wp2
      go_ret2
      exact ⟨_, us, ret_held (by rw [e1]), I.row, e2, I.kept⟩
    · have h2i : (2 : Int) ≤ (l2.length : Int) := by omega
      have hne : l2 ≠ [] := fun q => by rw [q] at h2; simp at h2
      obtain ⟨o2, rfl, hx4⟩ := hx2 hne
      clear hx2
      obtain ⟨h0, h1, b, hl2⟩ : ∃ h0 h1 b, l2 = h0 :: h1 :: b := by
        match l2, h2 with
        | [], h => simp at h
        | [_], h => simp at h
        | a :: b :: t, _ => exact ⟨a, b, t, rfl⟩
      have b0 := I.bl h0 (by rw [hl2]; simp)
      have b1 := I.bl h1 (by rw [hl2]; simp)
      have x0 := hx4 0 h0 (by rw [hl2]; rfl)
      have x1 := hx4 1 h1 (by rw [hl2]; rfl)
      obtain ⟨d, hd⟩ : ∃ d : Nat, h0 * 256 + h1 = d := ⟨(h0 * 256 + h1).toNat, by omega⟩
      have hwI : wantI l2 = d := by rw [hl2, ← hd]; rfl
      have hwN : wantN l2 = d := by unfold wantN; rw [hwI]; rfl
      obtain ⟨b00, b01⟩ := b0
      obtain ⟨b10, b11⟩ := b1
      rw [Nat.add_zero] at x0
      have hdb : (d : Int) ≤ 65535 := by omega
      have hgw := I.far hne
      have hgr := Nat.lt_of_lt_of_le hgw I.kept.size
      have HX := Lib.hid hx4
      have HD := Lib.hid hd
      have HL := Lib.hid hl2
      have HWI := Lib.hid hwI
      have HWN := Lib.hid hwN
      clear hx4 hl2 hwI hwN hd
      go_wp2
      go_quiet (fail)
      rw [HD.out]
      by_cases hle : l2.length < 2 + d
      · have hlei : (l2.length : Int) < 2 + (d : Int) := by omega
        obtain ⟨e1, e2⟩ := I.done (.inr (by rw [HWN.out]; exact hle))
        go_wp2
        go_ret2
        exact ⟨_, us, ret_held (by rw [e1]), I.row, e2, I.kept.drewN _⟩
      · have hlei : ¬ (l2.length : Int) < 2 + (d : Int) := by omega
        have hcapi : 2 + (d : Int) ≤ (cap2 : Int) := by omega
        have hleni : 2 + (d : Int) ≤ (l2.length : Int) := by omega
        obtain ⟨i0, hi, hz0, hz1, hz2⟩ := info_parts Try.info49
        have hr2 : FQ (wr.drewN nq) (.slice aO us.length cO) us := I.row
        by_cases hbig : 4096 < d
        · have hbigi : (4096 : Int) < (d : Int) := by omega
          have hfr := fr_big HWI.out (by omega) hbig
          go_wp2_with (at_builtin; refine wpList_append_at _ rfl _ _ 34 rfl 49 i0 (.agg #[.slice none 0 0, .int .i64 0]) 2 32 Try.underlying34 hi hz0 hz1 hz2 rfl (by decide) (.slice aO us.length cO) us.length (frow us) rfl (World.ownsRow.alloc hr2 _) ⟨wr.heap.size, 0, none⟩ 1 1 [.slice none 0 0, .int .i64 6] rfl rfl (World.news_of_block (heap_alloc_new (wr.drewN nq) (.cells #[.slice none 0 0, .int .i64 6] 49))) (by simp [Value.oneCell']) (by simp only [maxLen]; omega) (by omega) ?_; intro vO w4 k1 k2 k3)
          all_goals
            have hrow : FQ w4 vO (us ++ [(.slice none 0 0, (fr (l2.take (2 + d))).2)]) := by
              rw [hfr]
              unfold FQ
              rw [frow_app, List.length_append]
              exact k1
            have hok : FrOK (wr.drewN nq) (fun j => w.heap.size ≤ j) (.slice none 0 0) (fr (l2.take (2 + d))).1 := by
              rw [hfr]
              exact .inl ⟨rfl, rfl⟩
            clear k1 hr2
            go_wp2
            all_goals go_roundg (l2.length - (2 + d))
            all_goals first
              | (case measure => (have := I.count; omega))
              | (case rel => exact ⟨_, _, _, (I.drewN nq).go (by omega) HWN.out (by omega) hrow k2 k3 hok (by first | exact left_end hcap2 (by omega) _ _ (by assumption) | exact left_at HX.out hcap2 (by omega))⟩)
        · have hbigi : ¬ (4096 : Int) < (d : Int) := by omega
          have hfr := fr_small HWI.out (by omega) (by omega)
          by_cases hc2 : cap2 = 2
          · subst hc2
            have hd0 : d = 0 := by omega
            subst hd0
            go_wp2_with (at_builtin; refine wpList_append_at _ rfl _ _ 34 rfl 49 i0 (.agg #[.slice none 0 0, .int .i64 0]) 2 32 Try.underlying34 hi hz0 hz1 hz2 rfl (by decide) (.slice aO us.length cO) us.length (frow us) rfl (World.ownsRow.alloc hr2 _) ⟨wr.heap.size, 0, none⟩ 1 1 [.slice (some ⟨g, o2, none⟩) 0 0, .int .i64 0] rfl rfl (World.news_of_block (heap_alloc_new (wr.drewN nq) (.cells #[.slice (some ⟨g, o2, none⟩) 0 0, .int .i64 0] 49))) (by simp [Value.oneCell']) (by simp only [maxLen]; omega) (by omega) ?_; intro vO w4 k1 k2 k3)
            have hrow : FQ w4 vO (us ++ [(.slice (some ⟨g, o2, none⟩) 0 0, (fr (l2.take (2 + 0))).2)]) := by
              rw [hfr]
              unfold FQ
              rw [frow_app, List.length_append]
              exact k1
            have hok : FrOK (wr.drewN nq) (fun j => w.heap.size ≤ j) (.slice (some ⟨g, o2, none⟩) 0 0) (fr (l2.take (2 + 0))).1 := by
              rw [hfr]
              exact body_end (d := 0) hcap2 (by omega) _ _ rfl rfl (by omega) hgr
            clear k1 hr2
            go_roundg (l2.length - (2 + 0))
            case measure => (have := I.count; omega)
            case rel => exact ⟨_, _, _, (I.drewN nq).go (d := 0) (by omega) HWN.out (by omega) hrow k2 k3 hok (by have hz : l2.length - (2 + 0) = 0 := (by omega); have he := left_end (wr := wr.drewN nq) (g := g) (d := 0) hcap2 (by omega) (some ⟨g, o2, none⟩) 0 rfl; rw [hz] at he; exact he)⟩
          · go_wp2_with (at_builtin; refine wpList_append_at _ rfl _ _ 34 rfl 49 i0 (.agg #[.slice none 0 0, .int .i64 0]) 2 32 Try.underlying34 hi hz0 hz1 hz2 rfl (by decide) (.slice aO us.length cO) us.length (frow us) rfl (World.ownsRow.alloc hr2 _) ⟨wr.heap.size, 0, none⟩ 1 1 [.slice (some ⟨g, o2 + 2, none⟩) d (cap2 - 2), .int .i64 0] rfl rfl (World.news_of_block (heap_alloc_new (wr.drewN nq) (.cells #[.slice (some ⟨g, o2 + 2, none⟩) d (cap2 - 2), .int .i64 0] 49))) (by simp [Value.oneCell']) (by simp only [maxLen]; omega) (by omega) ?_; intro vO w4 k1 k2 k3)
            all_goals
              have hrow : FQ w4 vO (us ++ [(.slice (some ⟨g, o2 + 2, none⟩) d (cap2 - 2), (fr (l2.take (2 + d))).2)]) := by
                rw [hfr]
                unfold FQ
                rw [frow_app, List.length_append]
                exact k1
              have hok : FrOK (wr.drewN nq) (fun j => w.heap.size ≤ j) (.slice (some ⟨g, o2 + 2, none⟩) d (cap2 - 2)) (fr (l2.take (2 + d))).1 := by
                rw [hfr]
                exact body_at HX.out hcap2 (by omega) (by omega) hgr
              clear k1 hr2
              go_wp2
              all_goals go_roundg (l2.length - (2 + d))
              all_goals first
                | (case measure => (have := I.count; omega))
                | (case rel => exact ⟨_, _, _, (I.drewN nq).go (by omega) HWN.out (by omega) hrow k2 k3 hok (by first | exact left_end hcap2 (by omega) _ _ (by assumption) | exact left_at HX.out hcap2 (by omega))⟩)
end Go.Proofs.Ytfminplenemfnaa
