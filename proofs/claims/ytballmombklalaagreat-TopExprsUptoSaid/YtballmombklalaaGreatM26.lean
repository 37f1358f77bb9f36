/- eval: pair, the stack. -/
import Derived.Test.YtballmombklalaaGreatM25
namespace Go.Proofs.YtballmombklalaaGreat
open Go.RowKit

theorem thB_num {x : Wd} (h : thB x) {n : Int} (hn : asN x = .ok n) : I64 n := by
  unfold asN at hn
  split at hn
  · injection hn with hn
    subst hn
    rcases h with ⟨_, h, _⟩ | ⟨h, _⟩
    · exact h
    · omega
  · cases hn

theorem thB_str {x : Wd} (h : thB x) {t : List UInt8} (hn : asT x = .ok t) : t.length ≤ 64 := by
  unfold asT at hn
  split at hn
  · cases hn
  · injection hn with hn
    subst hn
    rcases h with ⟨h, _⟩ | ⟨_, _, h⟩
    · contradiction
    · exact h

set_option maxHeartbeats 2000000 in
set_option maxRecDepth 100000 in
theorem pair_any (c : Int) (a b : Wd) (ha : thB a) (hb : thB b) (w : World) : Calls Tryz.prog 89 #[.int .i64 c, thE a, thE b] w (EP thE (pairE c a b) w) := by
  have hta := fun wx => astext_any a wx
  have htb := fun wx => astext_any b wx
  have hna := fun wx => asnum_any a wx
  have hnb := fun wx => asnum_any b wx
  have ia := @thB_num a ha
  have ib := @thB_num b hb
  have hy := fun wx => eneed_yes 6 wx
  have hn := fun wx => eneed_no 6 wx
  by_cases h12 : c = 12
  · subst h12
    have e : pairE 12 a b = (match asT a, asT b with
      | .ok x, .ok y => if (x.length : Int) + y.length ≤ 64 then .ok (strW (x ++ y)) else .error 6
      | _, _ => .error 12) := rfl
    rw [e]
    clear e hna hnb ia ib
    have e1 : ∀ y, asT a = .error y → y = 12 := by intro y h; unfold asT at h; split at h <;> cases h; rfl
    have e2 : ∀ y, asT b = .error y → y = 12 := by intro y h; unfold asT at h; split at h <;> cases h; rfl
    have hxl0 : ∀ x, asT a = .ok x → x.length ≤ 64 := fun x h => thB_str ha h
    have hyl0 : ∀ x, asT b = .ok x → x.length ≤ 64 := fun x h => thB_str hb h
    generalize asT a = RA at *
    generalize asT b = RB at *
    generalize thE a = va at *
    generalize thE b = vb at *
    cases RA with
    | error y =>
      have := e1 y rfl
      subst this
      clear e1 e2 htb hxl0 hyl0
      go_enter Tryz.func89, Tryz.ntmps89
      go_wp2_with fail
      refine (hta _).mono ?_
      rintro e w1 ⟨rfl, k1⟩
      exact ⟨rfl, rfl, k1⟩
    | ok x =>
      cases RB with
      | error y =>
        have := e2 y rfl
        subst this
        clear e1 e2 hxl0 hyl0
        go_enter Tryz.func89, Tryz.ntmps89
        go_wp2_with fail
        refine (hta _).mono ?_
        rintro e w1 ⟨rfl, k1⟩
        go_wp2_with fail
        refine (htb _).mono ?_
        rintro e w2 ⟨rfl, k2⟩
        exact ⟨rfl, rfl, k1.trans k2⟩
      | ok y =>
        clear e1 e2
        simp only
        by_cases h64 : (x.length : Int) + y.length ≤ 64
        · rw [if_pos h64]
          clear hxl0 hyl0
          have hadd : ∀ (W : World), (Op.stringOp .add ⟨⟨x⟩⟩ ⟨⟨y⟩⟩).run Tryz.prog W = .ok (.string ⟨⟨x ++ y⟩⟩) W := fun W => by
            rw [run_string_add_lists W x y (by omega) (by omega)]
          have b1 : decide ((x.length : Int) + (y.length : Int) ≤ 64) = true := by simpa using h64
          have hts := Lib.hid (thE_str (x ++ y))
          go_enter Tryz.func89, Tryz.ntmps89
          go_wp2_with fail
          refine (hta _).mono ?_
          rintro e w1 ⟨rfl, k1⟩
          go_wp2_with fail
          refine (htb _).mono ?_
          rintro e w2 ⟨rfl, k2⟩
          go_wp2_with fail
          refine (hy _).mono ?_
          rintro e w3 ⟨rfl, rfl⟩
          go_wp2_with fail
          go_ret
          exact ⟨by rw [hts.out]; rfl, k1.trans k2⟩
        · rw [if_neg h64]
          have b1 : decide ((x.length : Int) + (y.length : Int) ≤ 64) = false := by simpa using h64
          have hxl := hxl0 x rfl
          have hyl := hyl0 y rfl
          clear hxl0 hyl0
          go_enter Tryz.func89, Tryz.ntmps89
          go_wp2_with fail
          refine (hta _).mono ?_
          rintro e w1 ⟨rfl, k1⟩
          go_wp2_with fail
          refine (htb _).mono ?_
          rintro e w2 ⟨rfl, k2⟩
          go_wp2_with fail
          refine (hn _).mono ?_
          rintro e w3 ⟨rfl, rfl⟩
          exact ⟨rfl, rfl, k1.trans k2⟩
  · by_cases hcm : 13 ≤ c ∧ c ≤ 18
    · have e : pairE c a b = cmpE c a b := by unfold pairE; rw [if_neg h12, if_pos hcm]
      rw [e]
      have hcmp := fun wx => compare_any c a b ha hb hcm wx
      generalize cmpE c a b = R at *
      have b12 : (c == 12) = false := by simpa using h12
      have b1 : decide (13 ≤ c) = true := by simpa using hcm.1
      have b2 : decide (c ≤ 18) = true := by simpa using hcm.2
      generalize thE a = va at *
      generalize thE b = vb at *
      clear hta htb hna hnb ia ib e h12 hcm
      go_enter Tryz.func89, Tryz.ntmps89
      go_wp2_with fail
      cases R with
      | error y =>
        refine (hcmp _).mono ?_
        rintro e w1 ⟨rfl, k1⟩
        exact ⟨rfl, rfl, k1⟩
      | ok x =>
        refine (hcmp _).mono ?_
        rintro e w1 ⟨rfl, k1⟩
        go_wp2_with fail
        go_ret
        exact ⟨rfl, k1⟩
    · have e : pairE c a b = (match asN a, asN b with
        | .ok x, .ok y => twoE c x y
        | _, _ => .error 12) := by unfold pairE; rw [if_neg h12, if_neg hcm]; rfl
      rw [e]
      have b12 : (c == 12) = false := by simpa using h12
      have e1 : ∀ y, asN a = .error y → y = 12 := by intro y h; unfold asN at h; split at h <;> cases h; rfl
      have e2 : ∀ y, asN b = .error y → y = 12 := by intro y h; unfold asN at h; split at h <;> cases h; rfl
      have htw : ∀ x y, asN a = .ok x → asN b = .ok y → ∀ wx, Calls Tryz.prog 117 #[.int .i64 c, .int .i64 x, .int .i64 y] wx (EP thE (twoE c x y) wx) := fun x y hx hy wx => two_any c x y (ia hx) (ib hy) wx
      generalize asN a = RA at *
      generalize asN b = RB at *
      generalize thE a = va at *
      generalize thE b = vb at *
      have hbc : (decide (13 ≤ c) = false) ∨ (decide (13 ≤ c) = true ∧ decide (c ≤ 18) = false) := by simp; omega
      clear hta htb e h12 hcm hy hn ha hb ia ib
      cases RA with
      | error y =>
        have := e1 y rfl
        subst this
        clear e1 e2 htw hnb
        rcases hbc with b1 | ⟨b1, b2⟩
        all_goals
          go_enter Tryz.func89, Tryz.ntmps89
          go_wp2_with fail
          refine (hna _).mono ?_
          rintro e w1 ⟨rfl, k1⟩
          exact ⟨rfl, rfl, k1⟩
      | ok x =>
        cases RB with
        | error y =>
          have := e2 y rfl
          subst this
          clear e1 e2 htw
          rcases hbc with b1 | ⟨b1, b2⟩
          all_goals
            go_enter Tryz.func89, Tryz.ntmps89
            go_wp2_with fail
            refine (hna _).mono ?_
            rintro e w1 ⟨rfl, k1⟩
            go_wp2_with fail
            refine (hnb _).mono ?_
            rintro e w2 ⟨rfl, k2⟩
            exact ⟨rfl, rfl, k1.trans k2⟩
        | ok y =>
          have htw2 := htw x y rfl rfl
          clear e1 e2 htw
          simp only
          generalize twoE c x y = R at *
          rcases hbc with b1 | ⟨b1, b2⟩
          all_goals
            go_enter Tryz.func89, Tryz.ntmps89
            go_wp2_with fail
            refine (hna _).mono ?_
            rintro e w1 ⟨rfl, k1⟩
            go_wp2_with fail
            refine (hnb _).mono ?_
            rintro e w2 ⟨rfl, k2⟩
            go_wp2_with fail
            cases R with
            | error z =>
              refine (htw2 _).mono ?_
              rintro e w3 ⟨rfl, k3⟩
              exact ⟨rfl, rfl, (k1.trans k2).trans k3⟩
            | ok z =>
              refine (htw2 _).mono ?_
              rintro e w3 ⟨rfl, k3⟩
              go_wp2_with fail
              go_ret
              exact ⟨rfl, (k1.trans k2).trans k3⟩

def encH (x : Wd) : List Value := [thE x]
theorem encH_len (x : Wd) : (encH x).length = 1 := rfl
theorem encH_one : ∀ x, ∀ u ∈ encH x, u.oneCell' = true := by
  intro x u hu
  unfold encH at hu
  rw [List.mem_singleton] at hu
  subst hu
  unfold thE
  split <;> rfl
/-- The stack in block p; the last thing first. -/
def SK (w : World) (p : Nat) (st : List Wd) : Prop := ∃ v, w.heap[p]? = some (.cells #[v] 116 (0, 0)) ∧ Row encH 1 119 w v st.reverse ∧ (∀ j, v.ownBlock = some j → p < j) ∧ st.length ≤ 1000
theorem SK.same {w w' : World} {p : Nat} {st : List Wd} {S : Nat → Prop} (h : SK w p st) (k : Kept S w w') (hS : ∀ j, p ≤ j → ¬ S j) : SK w' p st := by
  obtain ⟨v, h1, h2, h3, h4⟩ := h
  exact ⟨v, k.heap h1 (hS p (Nat.le_refl _)), h2.kept k (fun g hg => hS g (Nat.le_of_lt (h3 g hg))), h3, h4⟩
/-- What a push may write. -/
def MayP (w : World) (p j : Nat) : Prop := j = p ∨ (p ≤ j ∧ ∃ cs f, w.heap[j]? = some (.cells cs 119 f))
theorem mayp_ge {w : World} {p j : Nat} (q : MayP w p j) : p ≤ j := by
  rcases q with rfl | q
  · exact Nat.le_refl _
  · exact q.1
theorem thE_shape (x : Wd) : ∃ T u, thE x = .iface T u := by unfold thE; split <;> exact ⟨_, _, rfl⟩

set_option maxHeartbeats 1000000 in
set_option maxRecDepth 100000 in
theorem push_any (p : Nat) (st : List Wd) (x : Wd) (w : World) (h : SK w p st) (hl : st.length < 1000) :
    Calls Tryz.prog 82 #[.pointer (some ⟨p, 0, none⟩), thE x] w fun e w' => e = .returned (.tuple #[]) ∧ SK w' p (x :: st) ∧ Kept (MayP w p) w w' := by
  obtain ⟨v, h1, h2, h3, _⟩ := h
  have c0 := cell_of_row w p 0 _ _ _ h1
  simp only [List.getElem?_toArray, List.getElem?_cons_zero] at c0
  have hlt := (Array.getElem?_eq_some_iff.1 h1).1
  have ka := (Kept.refl (fun _ => False) w).alloc (.cells #[thE x] 119)
  have hal := heap_alloc_new w (.cells #[thE x] 119)
  have hss := ka.size
  have hrl := h2.lt
  obtain ⟨A', c', w2, hrun0, hr4, k20, hr5⟩ := app_src (P := Tryz.prog) (enc := encH) (sz := 1) (M := [x]) (N := fun _ => False) 114 114 Value.nilIface 16 Tryz.underlying114 (by kernel_rfl) rfl (by decide) encH_len encH_one (h2.same ka) (some ⟨w.heap.size, 0, none⟩) 1 (by simp) (Src.many encH_len hal (fun q => q)) (by simp only [maxLen, List.length_singleton, List.length_reverse]; omega) (by simp only [List.length_singleton, List.length_reverse]; omega)
  have hb1 := ka.heap h1 (fun q => q)
  have hb2 := k20.heap hb1 (fun q => Nat.lt_irrefl _ (h3 p q))
  rw [List.length_append, ← List.reverse_cons] at hr4
  have c2 := cell_of_row w2 p 0 _ _ _ hb2
  simp only [List.getElem?_toArray, List.getElem?_cons_zero] at c2
  have f2 := frozen_of hb2 0
  have hrun : Hid _ := hrun0
  have hown : ∀ j, (Value.slice A' (st.reverse.length + [x].length) c').ownBlock = some j → p < j := fun j hj => by
    rcases hr5 j hj with q | q
    · exact h3 j q
    · omega
  have hsk : SK (w2.setCell ⟨p, 0, none⟩ (.slice A' (st.reverse.length + [x].length) c')) p (x :: st) :=
    ⟨_, blk_set hb2 0 _, Row.kept (S := fun j => j = p) hr4 ((Kept.refl (fun j => j = p) w2).setCell (p := ⟨p, 0, none⟩) (fun _ => rfl) _) (fun g hg q => by have := hown g hg; omega), hown, by simp only [List.length_cons]; omega⟩
  have hk3 : Kept (MayP w p) w (w2.setCell ⟨p, 0, none⟩ (.slice A' (st.reverse.length + [x].length) c')) := by
    refine ((ka.mono (T := MayP w p) (fun _ _ q => q.elim)).trans' k20 (fun _ _ q => q) (fun i hi q => ?_)).setCell (p := ⟨p, 0, none⟩) (fun _ => .inl rfl) _
    rcases h2.2 with ⟨e, _⟩ | ⟨g, cap, cur, e, _, hg, _⟩
    · rw [e] at q; cases q
    · have hq := h3 i q
      rw [e] at q
      injection q with q
      subst q
      exact .inr ⟨Nat.le_of_lt hq, cur, (0, 0), hg⟩
  obtain ⟨T, u, hT⟩ := thE_shape x
  rw [hT] at hrun hal ka ⊢
  clear hr4 hr5 hrun0 hal hss k20 hown hb1 hT ka
  simp only [List.length_reverse, List.length_singleton] at *
  go_enter Tryz.func82, Tryz.ntmps82
  go_wp2_with (at_builtin; refine wpList_run2 rfl _ _ _ _ rfl rfl rfl hrun ?_)
  go_end0
  exact ⟨rfl, hsk, hk3⟩

theorem Row.less {α : Type} {enc : α → List Value} {T : TypeId} {w : World} {L : List α} {x : α} {g n c : Nat} {o : Nat} (hlen : ∀ x, (enc x).length = 1) (h : Row enc 1 T w (.slice (some ⟨g, o, none⟩) n c) (L ++ [x])) : Row enc 1 T w (.slice (some ⟨g, o, none⟩) L.length c) L := by
  obtain ⟨h1, h2⟩ := h
  refine ⟨by rw [cells_len enc 1 hlen], .inr ?_⟩
  rcases h2 with ⟨q, _⟩ | ⟨g', cap, cur, e, hb, hg, hnc, hcm, hcs, ht⟩
  · cases q
  · injection e with e1 e2 e3
    injection e1 with e1
    injection e1 with e1 e4 _
    subst e1 e3 e4
    rw [List.length_append, List.length_singleton] at hnc ht
    refine ⟨g, c, cur, rfl, hb, hg, by omega, hcm, hcs, ?_⟩
    have := congrArg (List.take (L.length * 1)) ht
    have hcl := cells_len enc 1 hlen L
    rw [List.take_take, Nat.min_eq_left (by omega), cells_app, List.take_append_of_le_length (by omega)] at this
    rw [this]
    exact List.take_of_length_le (by omega)

set_option maxHeartbeats 1000000 in
set_option maxRecDepth 100000 in
theorem pop_any (p : Nat) (st : List Wd) (x : Wd) (w : World) (h : SK w p (x :: st)) :
    Calls Tryz.prog 49 #[.pointer (some ⟨p, 0, none⟩)] w fun e w' => e = .returned (thE x) ∧ SK w' p st ∧ Kept (fun j => j = p) w w' := by
  obtain ⟨v, h1, h2, h3, h4⟩ := h
  obtain ⟨A, c, rfl, hlc, hcm, hs⟩ := h2.src encH_len (fun _ => False) (fun _ _ q => q)
  have hx : (x :: st).reverse[st.length]? = some x := by rw [List.reverse_cons, List.getElem?_append_right (by simp)]; simp
  obtain ⟨b, off, rfl, _, hc⟩ := hs _ _ hx
  have x0 := hc 0 _ rfl
  rw [Nat.mul_one, Nat.add_zero] at x0
  have hrl : (x :: st).reverse.length = st.length + 1 := by simp
  have h2' := h2
  rw [List.reverse_cons] at h2'
  have hless := h2'.less encH_len
  rw [List.length_reverse] at hless
  rw [hrl] at h1 hlc
  have c0 := cell_of_row w p 0 _ _ _ h1
  simp only [List.getElem?_toArray, List.getElem?_cons_zero] at c0
  have a0 := cell_al c0
  have f0 := frozen_of h1 0
  have hlt := (Array.getElem?_eq_some_iff.1 h1).1
  simp only [List.length_cons] at h4
  have kD : ∀ N, Kept (fun j => j = p) (w.drewN N) ((w.drewN N).setCell ⟨p, 0, none⟩ (.slice (some ⟨b, off, none⟩) st.length c)) := fun N => (Kept.refl (fun j => j = p) (w.drewN N)).setCell (p := ⟨p, 0, none⟩) (fun _ => rfl) _
  have hsk : ∀ N, SK ((w.drewN N).setCell ⟨p, 0, none⟩ (.slice (some ⟨b, off, none⟩) st.length c)) p st := fun N =>
    ⟨_, blk_set (w := w.drewN N) h1 0 _, Row.kept (S := fun j => j = p) (w := w.drewN N) hless (kD N) (fun g hg q => by have := h3 g hg; omega), h3, by omega⟩
  have hk : ∀ N, Kept (fun j => j = p) w ((w.drewN N).setCell ⟨p, 0, none⟩ (.slice (some ⟨b, off, none⟩) st.length c)) := fun N => ((Kept.refl (fun j => j = p) w).drewN N).trans (kD N)
  obtain ⟨T, u, hT⟩ := thE_shape x
  rw [hT] at x0 ⊢
  clear hs hc hx h2 h2' hless hT kD h1 hrl
  go_enter Tryz.func49, Tryz.ntmps49
  go_wp2_with fail
  go_quiet (fail)
  go_wp2_with fail
  go_region
  all_goals (go_wp2_with fail; go_ret; exact ⟨rfl, hsk _, hk _⟩)
end Go.Proofs.YtballmombklalaaGreat
