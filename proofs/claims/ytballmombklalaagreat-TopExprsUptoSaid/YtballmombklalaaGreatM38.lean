/- rescindtop.TopExprs: true, whatever the input. -/
import Derived.Test.YtballmombklalaaGreatM37
import Derived.Test.YtballmombklalaaGreatM34
import Derived.Test.YtballmombklalaaGreatM36
import Derived.Test.YtballmombklalaaGreatM29
namespace Go.Proofs.YtballmombklalaaGreat
open Go.RowKit

theorem New.weak {α : Type} {enc : α → List Value} {sz : Nat} {T : TypeId} {w0 w : World} {v : Value} {L : List α} (h : New enc sz T w0 w v L) : Kept (fun _ => False) w0 w := h.kept
theorem bytes_small {x : List Wd} (h : formI x = 0) (hn : ∀ o ∈ x, I64 o.n) : (exprBytes x).length ≤ 1048576 := by
  obtain ⟨h1, _, h3⟩ := form_all h
  have := wordsBytes_len x (fun o ho => ⟨h3 o ho, hn o ho⟩)
  unfold exprBytes
  rw [List.length_cons]
  have h4 : x.length * 100 ≤ 64 * 100 := Nat.mul_le_mul_right _ h1
  omega

set_option maxHeartbeats 2000000 in
set_option maxRecDepth 100000 in
theorem top_err (s : List UInt8) (S : List Cl) (L : List Ed) (A B : Option Addr) (c e0 : Nat) (w : World) (hS : Src encC 2 w (fun _ => False) B S) (hsl : S.length ≤ maxLen) (hl : s.length ≤ 1048576) (h : (pexS s S).2 ≠ 0) :
    Calls Tryz.prog 3 #[.string ⟨⟨s⟩⟩, .slice B S.length e0, .slice A L.length c] w fun e w' => e = .returned (.bool true) ∧ Kept (fun _ => False) w w' := by
  have hp := pexpr_any s S B e0 w hS hl hsl
  have ha := fun wx => asked_any wx
  rw [pexS_err h] at hp
  generalize (pexS s S).2 = er at *
  have h' : (er != 0) = true := by simpa using h
  clear h
  go_enter Tryz.func3, Tryz.ntmps3
  go_wp2_with fail
  refine hp.mono ?_
  rintro e w1 ⟨v, rfl, hn⟩
  obtain ⟨A2, c2, rfl, _, _⟩ := hn.row.shape
  have kn := Lib.hid hn.kept
  clear hn
  go_wp2_with fail
  refine (ha _).mono ?_
  rintro e w2 ⟨rfl, k2⟩
  go_wp2_with fail
  go_ret
  exact ⟨rfl, kn.out.trans k2⟩

set_option maxHeartbeats 4000000 in
set_option maxRecDepth 100000 in
theorem top_ok (s : List UInt8) (S : List Cl) (L : List Ed) (A B : Option Addr) (c e0 : Nat) (w : World) (hS : Src encC 2 w (fun _ => False) B S) (hsl : S.length ≤ maxLen) (hl : s.length ≤ 1048576)
    (hL : EdS w (fun _ => False) A L) (hLl : L.length ≤ 1048576) (hLn : ∀ y ∈ L, ∀ v ∈ y.r, I64 v.n) (h : (pexS s S).2 = 0) :
    Calls Tryz.prog 3 #[.string ⟨⟨s⟩⟩, .slice B S.length e0, .slice A L.length c] w fun e w' => e = .returned (.bool true) ∧ Kept (fun _ => False) w w' := by
  obtain ⟨x, hx⟩ : ∃ x, (pexS s S).1 = x := ⟨_, rfl⟩
  have hxx : pexS s S = (x, 0) := by rw [← hx, ← h]
  obtain ⟨hsc, hfo, hwo⟩ := pexS_ok hxx h
  obtain ⟨t, hg, ht, h64⟩ := form_tree hfo
  subst ht
  have hsb := bytes_small hfo (fun o ho => (hwo o ho).1)
  have hp := pexpr_any s S B e0 w hS hl hsl
  rw [hxx] at hp
  have hj := show_len hsc t hg hwo h64
  have hpar := show_parse hsc t hg hwo h64
  have hp2 := fun wx hy => pexpr_any (joinS (toksX S t)) S B e0 wx hy hj hsl
  rw [hpar] at hp2
  have htx := fun A2 cap wx hy hz hcap => text_show S B e0 t A2 cap wx hy hz h64 hcap hg hwo hsc (show_ne hsc t hg hwo) hj
  have hby := fun A2 cap wx hy => bytes_any t.flat A2 cap wx hy hfo (fun o ho => (hwo o ho).1)
  have hrd := fun wx v hy => newReader_any wx v (exprBytes t.flat) hy hsb
  have her := fun wx p hy => eread_any t.flat wx p hy hfo (fun o ho => (hwo o ho).1)
  have hsm := fun A2 B2 c2 d2 wx hy hz => esame_any t.flat t.flat A2 B2 c2 d2 wx hy hz (by unfold maxLen; omega) (by unfold maxLen; omega)
  simp only [decide_true] at hsm
  have hfi := fun B2 d2 wx hy hz => filter_any L t.flat A B2 c d2 wx hLl hy hz (by omega) (fun o ho => (hwo o ho).1) hLn
  have ha := fun wx => asked_any wx
  have hFr : ∀ y ∈ (filS L t.flat).1, y.r.length ≤ 1048576 := fun y hy => by
    obtain ⟨z, hz, e⟩ := filS_rows hy
    obtain ⟨i, hi, he⟩ := List.getElem_of_mem hz
    obtain ⟨_, _, _, _, _, _, _, _, _, _, _, hq⟩ := hL i z (by rw [List.getElem?_eq_getElem hi, he])
    rw [e]; exact hq
  have hFl := filS_len L t.flat
  have hes := fun A2 B2 c2 d2 wx hy hz => edgeSame_any (filS L t.flat).1 (filS L t.flat).1 A2 B2 c2 d2 wx hy hz (by unfold maxLen; omega) (by unfold maxLen; omega)
  simp only [decide_true] at hes
  generalize filS L t.flat = F at *
  clear hpar hj hsb hxx hx h hwo hfo
  generalize joinS (toksX S t) = J at *
  generalize exprBytes t.flat = Bs at *
  generalize t.flat = X at *
  clear hg
  obtain ⟨F1, F2⟩ := F
  simp only at hFr hFl hes hfi hp hp2
  go_enter Tryz.func3, Tryz.ntmps3
  go_wp2_with fail
  refine hp.mono ?_
  rintro e w1 ⟨v1, rfl, hn1⟩
  obtain ⟨A1, c1, rfl, _, _, hs1⟩ := hn1.row.src encW_len (fun _ => False) (fun _ _ q => q)
  have K1 := Lib.hid hn1.kept
  clear hn1
  go_wp2_with fail
  refine (hby _ _ _ hs1).mono ?_
  rintro e w2 ⟨v2, rfl, hn2⟩
  go_wp2_with fail
  refine (hrd _ _ hn2.row).mono ?_
  rintro e w3 ⟨p, rfl, hrp, hpp, k3⟩
  go_wp2_with fail
  refine (her _ _ hrp).mono ?_
  rintro e w4 ⟨v4, rfl, hr4, _, k4⟩
  obtain ⟨A4, c4, rfl, hc4, _, hs4⟩ := hr4.src encW_len (fun _ => False) (fun _ _ q => q)
  have k24 : Kept (fun _ => False) w2 w4 := k3.trans' k4 (fun _ _ q => q) (fun j hj q => by omega)
  have k14 := hn2.kept.trans k24
  have k04 := K1.out.trans k14
  have hs1' := hs1.same k14
  clear hrp hpp k3 k4 hr4 hn2 k24 k14
  go_wp2_with fail
  refine (htx _ _ _ (hS.same k04) hs4 hc4).mono ?_
  rintro e w5 ⟨rfl, k5⟩
  have k05 := k04.trans k5
  go_wp2_with fail
  refine (hp2 _ (hS.same k05)).mono ?_
  rintro e w6 ⟨v6, rfl, hn6⟩
  obtain ⟨A6, c6, rfl, _, _, hs6⟩ := hn6.row.src encW_len (fun _ => False) (fun _ _ q => q)
  have k06 := k05.trans hn6.kept
  have k46 := k5.trans hn6.kept
  have hs16 := hs1'.same k46
  have hs46 := hs4.same k46
  clear k5 k05 k04 hs1 hs1' hs4 hn6 k46
  go_wp2_with fail
  refine (hsm _ _ _ _ _ hs16 hs46).mono ?_
  rintro e w7 ⟨rfl, n7, rfl⟩
  have k7 := drew_kept w6 n7
  generalize w6.drewN n7 = w7 at *
  have hs17 := hs16.same k7
  have hs67 := hs6.same k7
  have k07 := k06.trans k7
  clear k7 k06 hs16 hs46 hs6
  go_wp2_with fail
  refine (hsm _ _ _ _ _ hs17 hs67).mono ?_
  rintro e w8 ⟨rfl, n8, rfl⟩
  have k8 := drew_kept w7 n8
  generalize w7.drewN n8 = w8 at *
  have hs18 := hs17.same k8
  have hs68 := hs67.same k8
  have k08 := k07.trans k8
  clear k8 k07 hs17 hs67
  have hbl : ((X.length : Int) != (X.length : Int)) = false := by simp
  go_wp2_with fail
  refine (hfi _ _ _ (hL.same k08) hs18).mono ?_
  rintro e w9 ⟨va, Ma, rfl, hEa, hma⟩
  have hs69 := hs68.same hEa.kept
  have k09 := k08.trans hEa.kept
  have HMA := Lib.hid hma
  clear hs18 hs68 k08 hma
  go_wp2_with fail
  refine (hfi _ _ _ (hL.same k09) hs69).mono ?_
  rintro e w10 ⟨vb, Mb, rfl, hEb, hmb⟩
  obtain ⟨Aa, ca, rfl, _, hsa⟩ := hEa.eds (fun p hp => hFr p.2 (by rw [← HMA.out]; exact List.mem_map_of_mem hp))
  obtain ⟨Ab, cb, rfl, _, hsb⟩ := hEb.eds (fun p hp => hFr p.2 (by rw [← hmb]; exact List.mem_map_of_mem hp))
  have hla : Ma.length = F1.length := by rw [← HMA.out, List.length_map]
  have hlb : Mb.length = F1.length := by rw [← hmb, List.length_map]
  rw [HMA.out] at hsa
  rw [hmb] at hsb
  rw [hla, hlb]
  have k010 := k09.trans hEb.kept
  have hsa2 := hsa.same hEb.kept
  clear hs69 k09 hEa hEb hmb hsa hla hlb
  go_wp2_with fail
  refine (ha _).mono ?_
  rintro e w11 ⟨rfl, k11⟩
  have hsa3 := hsa2.same k11
  have hsb3 := hsb.same k11
  have k011 := k010.trans k11
  have hF2 : (F2 == F2) = true := by simp
  clear k11 k010 hsa2 hsb
  go_wp2_with fail
  refine (hes _ _ _ _ _ hsa3 hsb3).mono ?_
  rintro e w12 ⟨rfl, k12⟩
  go_wp2_with fail
  go_ret
  exact ⟨rfl, k011.trans k12⟩

theorem top_any (s : List UInt8) (S : List Cl) (L : List Ed) (A B : Option Addr) (c e0 : Nat) (w : World) (hS : Src encC 2 w (fun _ => False) B S) (hsl : S.length ≤ maxLen) (hl : s.length ≤ 1048576)
    (hL : EdS w (fun _ => False) A L) (hLl : L.length ≤ 1048576) (hLn : ∀ y ∈ L, ∀ v ∈ y.r, I64 v.n) :
    Calls Tryz.prog 3 #[.string ⟨⟨s⟩⟩, .slice B S.length e0, .slice A L.length c] w fun e w' => e = .returned (.bool true) ∧ Kept (fun _ => False) w w' := by
  by_cases h : (pexS s S).2 = 0
  · exact top_ok s S L A B c e0 w hS hsl hl hL hLl hLn h
  · exact top_err s S L A B c e0 w hS hsl hl h
end Go.Proofs.YtballmombklalaaGreat
