/- FrameSplits' walk. -/
import Derived.Test.YtfminplenemfnaaAA
namespace Go.Proofs.Ytfminplenemfnaa
open Go.RowKit

set_option maxHeartbeats 4000000 in
theorem splits_any (w : World) (ga gb : Nat) (va vb : Value) (la lb : List Int) (ha : SlA w ga va la) (hb : SlA w gb vb lb) (Ba : Bytes la) (Bb : Bytes lb) (hsum : la.length + lb.length ≤ 1048576) :
    Calls Try.prog 5 #[va, vb] w fun e w' => e = .returned (.bool true) ∧ Kept (fun _ => False) w w' := by
  have hp0 : parse [] = ([], []) := parse_opn (.inl (by simp))
  go_enter Try.func5, Try.ntmps5
  go_wp2_with fail
  refine (new_any _).mono ?_
  rintro e w1 ⟨c, rfl, hc, C1, k1⟩
  go_wp2_with fail
  refine (new_any _).mono ?_
  rintro e w2 ⟨d, rfl, hd, D2, k2⟩
  have hcl := C1.lt
  have s1 := k1.size
  have C2 := C1.kept k2 (fun _ _ q => q)
  have k02 := k1.trans k2
  obtain ⟨g1, hn1, hN1⟩ := ha.toN2 k02 (Own c (.slice none 0 0) (.slice none 0 0)) (fun j hj => by rw [own_nil hj]; exact ⟨hc, C2.lt⟩)
  go_wp2_with fail
  refine (feed_any w2 c _ _ [] g1 va la (St.nil C2) hn1 (fun x hx => by cases hx) Ba (.inl (by simp)) (by omega) hN1).mono ?_
  rintro e w3 ⟨vO1, vs1, vL3, vB3, rfl, R3, O3, F3, S3, K3, J3⟩
  have I3 := SpI.first (w := w) hc (by omega) (by omega) k02 D2 R3 O3 F3 S3 K3 J3
  clear hN1 hn1 C1 C2 D2 k1 k2 R3 O3 F3 S3 K3 J3
  obtain ⟨g2, hn2, hN2⟩ := hb.toN2 I3.kept (Own c vL3 vB3) (fun j hj => ⟨I3.own j hj, Own.lt I3.st hj⟩)
  go_wp2_with fail
  refine (feed_any w3 c vL3 vB3 (parse la).2 g2 vb lb I3.st hn2 (parse_rest_bytes la Ba) Bb (parse_rest_opn la) (by omega) hN2).mono ?_
  rintro e w4 ⟨vO2, vs2, vL4, vB4, rfl, R4, O4, F4, S4, K4, J4⟩
  have RG : FR w4 vO1 vs1 := I3.g.kept K4 (fun j hj => (I3.gown j hj).2)
  have hlen1 := parse_len la
  have hlen2 := parse_len ((parse la).2 ++ lb)
  rw [List.length_append] at hlen2
  have hvs := I3.fits.1
  have hvs2 := F4.1
  have hone := F4.one
  go_wp2_with (first
    | (at_builtin; refine wpList_append_F _ rfl _ _ rfl vO1 vs1 rfl RG vO2 vs2 rfl R4 hone (by omega) ?_; intro vX w5 R5 g5 n5
       have I5 := I3.next F4 S4 K4 J4 R5 g5 n5
       have hr0 : OR (w5.alloc (.cells #[] 5)) (.slice (some ⟨w5.heap.size, 0, Option.none⟩) 0 0) [] := World.ownsRow_lit w5 #[] 0 (Nat.zero_le _) (Nat.zero_le _) rfl
       have ka : Kept (fun _ => False) w5 (w5.alloc (.cells #[] 5)) := (Kept.refl _ _).alloc _
       have ha5 := ha.kept (I5.kept.trans ka) (fun q => q)
       have tok := True.intro)
    | (at_builtin; have _t := tok; refine wpList_append_A _ rfl _ _ rfl _ [] rfl hr0 ga va la rfl ha5 (by simp only [List.length_nil]; omega) ?_; intro vN w6 R6 g6 n6
       have k6 := ka.grown g6 (fun k hk hlt => by injection hk with hk; simp only at hk; omega)
       have j6 := n6.ge (w := w5) (fun k hk => by injection hk with hk; simp only at hk; omega) ka.size
       have hb6 := hb.kept (I5.kept.trans k6) (fun q => q)
       rw [List.nil_append] at R6
       clear tok)
    | (at_builtin; refine wpList_append_A _ rfl _ _ rfl _ la rfl R6 gb vb lb rfl hb6 (by omega) ?_; intro vM w7 R7 g7 n7
       have k7 := k6.grown g7 (fun k hk hlt => absurd (j6 k hk) (by omega))
       have j7 := n7.ge (w := w5) j6 k6.size))
  have I7 := I5.kept2 k7
  obtain ⟨gM, hnM, hNM⟩ := R7.toN2 (Own d (.slice Option.none 0 0) (.slice Option.none 0 0)) (fun j hj => by rw [own_nil hj]; exact I7.cutd.lt) (fun k hk q => by have := j7 k hk; have := I5.cutd.lt; rw [own_nil q] at *; omega)
  clear R5 g5 n5 hr0 ka ha5 R6 g6 n6 hb6 k6 j6 R7 g7 n7 j7 k7 I5 RG hone hvs hvs2 hlen1 hlen2 R4 O4 F4 S4 K4 J4 hN2 hn2 I3
  go_wp2_with fail
  refine (feed_any w7 d _ _ [] gM vM (la ++ lb) (St.nil I7.cutd) hnM (fun x hx => by cases hx) (Ba.app Bb) (.inl (by simp)) (by rw [List.length_append]; omega) hNM).mono ?_
  rintro e w8 ⟨vY, vs8, vL8, vB8, rfl, R8, O8, F8, S8, K8, J8⟩
  obtain ⟨Sc, Gx, Fx, kf⟩ := I7.last K8
  rw [List.nil_append] at F8 S8
  obtain ⟨A, cA, rfl, _, hA⟩ := Gx.fc Fx
  obtain ⟨B, cB, rfl, _, hB⟩ := R8.fc F8
  have hl := opn_len (parse_rest_opn (la ++ lb)) (parse_rest_bytes _ (Ba.app Bb))
  have h1 := held_st w8 c vL4 vB4 _ Sc hl
  have h2 := fun n => held_st (w8.drewN n) d vL8 vB8 _ (Cut.drewN S8 n) hl
  have hm := parse_len (la ++ lb)
  rw [List.length_append] at hm
  clear I7 K8 Sc Gx Fx R8 O8 F8 S8 J8 hl hnM hNM
  have hm : (parse (la ++ lb)).1.length ≤ 1048576 := by omega
  generalize (parse (la ++ lb)).1 = fs at *
  generalize (parse (la ++ lb)).2.length = hN at *
  go_wp2_with fail
  refine h1.mono ?_
  rintro e w9 ⟨rfl, n9, rfl⟩
  go_wp2_with fail
  refine (h2 n9).mono ?_
  rintro e w10 ⟨rfl, n10, rfl⟩
  clear h1 h2
  go_wp2_with fail
  go_loopw [9] (fun i wr => ∃ k n : Nat, k ≤ fs.length ∧ i = .int .i64 k ∧ wr = w8.drewN n) (fun i _ => fs.length - (intOf i).toNat)
  case atStart => exact ⟨0, n9 + n10, Nat.zero_le _, rfl, rfl⟩
  case round =>
    obtain ⟨k, n, hk, rfl, rfl⟩ := hrel
    by_cases hlt : k < fs.length
    · obtain ⟨f, hf⟩ : ∃ f, fs[k]? = some f := ⟨fs[k], List.getElem?_eq_getElem hlt⟩
      obtain ⟨g, x, rfl, x0, x1, N, hx⟩ := hA k f hf
      obtain ⟨g', y, rfl, y0, y1, N', hy⟩ := hB k f hf
      have hcx := conv_FrN (w := w8) hx
      have hcy := conv_FrN (w := w8) hy
      clear hx hy hf hA hB
      go_wp2
      go_quiet (fail)
      go_wp2
      go_roundw
      case rel => exact ⟨k + 1, n + nq, by omega, by go_num, rfl⟩
      case measure => simp [intOf]; omega
    · go_wp2_with fail
      refine (live_any _).mono ?_
      rintro e w11 ⟨rfl, k11⟩
      go_wp2_with fail
      go_ret
      exact ⟨rfl, (kf.drewN n).trans k11⟩
end Go.Proofs.Ytfminplenemfnaa
