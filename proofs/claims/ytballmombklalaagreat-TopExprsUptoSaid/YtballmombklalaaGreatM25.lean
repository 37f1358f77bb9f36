/- show: Tokens, Text. -/
import Derived.Test.YtballmombklalaaGreatM23
import Derived.Test.YtballmombklalaaGreatM24
namespace Go.Proofs.YtballmombklalaaGreat
open Go.RowKit

theorem write_any (S : List Cl) (B : Option Addr) (e0 : Nat) (t : Ex) : WriteC S B e0 t := by
  induction t with
  | leaf o => exact write_step S B e0 (.leaf o) (by simp [Ex.kids])
  | un o a ih => exact write_step S B e0 (.un o a) (by
      intro k hk
      rw [show (Ex.un o a).kids = [a] from rfl, List.mem_singleton] at hk
      rw [hk]
      exact ih)
  | bin o a b ih1 ih2 => exact write_step S B e0 (.bin o a b) (by
      intro k hk
      rw [show (Ex.bin o a b).kids = [a, b] from rfl, List.mem_cons, List.mem_singleton] at hk
      rcases hk with hk | hk
      · rw [hk]; exact ih1
      · rw [hk]; exact ih2)

set_option maxRecDepth 100000 in
theorem tok1_any (o : Wd) (bx : Nat) (B : Option Addr) (n e0 : Nat) (w : World) (hb : w.heap[bx]? = some (.cells #[.slice B n e0] 23 (0, 0))) :
    Calls Tryz.prog 58 #[aggW o, .pointer (some ⟨bx, 0, none⟩)] w fun e w' => e = .returned (.bool ((o.c == 3) && decide ((n : Int) ≤ o.n))) ∧ Kept (fun _ => False) w w' := by
  obtain ⟨c, k, t⟩ := o
  unfold aggW
  simp only
  have ka := (Kept.refl (fun _ => False) w).alloc (.cells #[.int .i64 c, .int .i64 k, .string ⟨⟨t⟩⟩] 62)
  have c0 := cell_of_row w bx 0 _ _ _ hb
  simp only [List.getElem?_toArray, List.getElem?_cons_zero] at c0
  have c1 := ka.cell c0 (fun q => q)
  clear hb
  by_cases h3 : c = 3
  · have h3' : (c == 3) = true := by simpa using h3
    rw [h3', Bool.true_and]
    generalize hd : decide ((n : Int) ≤ k) = D
    clear h3
    go_enter Tryz.func58, Tryz.ntmps58
    go_wp2_with fail
    go_ret
    exact ⟨rfl, ka⟩
  · have h3' : (c == 3) = false := by simpa using h3
    rw [h3', Bool.false_and]
    clear h3
    go_enter Tryz.func58, Tryz.ntmps58
    go_wp2_with fail
    go_ret
    exact ⟨rfl, ka⟩

set_option maxHeartbeats 1000000 in
set_option maxRecDepth 100000 in
theorem tokens_any (S : List Cl) (B : Option Addr) (e0 : Nat) (t : Ex) (A : Option Addr) (cap : Nat) (w : World) (hS : Src encC 2 w (fun _ => False) B S) (h : Src encW 3 w (fun _ => False) A t.flat) (hl : t.flat.length ≤ 64) (hcap : t.flat.length ≤ cap) (hg : t.good)
    (hall : ∀ o ∈ t.flat, I64 o.n ∧ (o.c = 3 → o.n < S.length)) (hs : schB S = true) :
    Calls Tryz.prog 25 #[.slice A t.flat.length cap, .slice B S.length e0] w fun e w' => ∃ v, e = .returned (.tuple #[v, .int .i64 0]) ∧ New encT 2 96 w w' v (toksX S t) := by
  have hsl : S.length ≤ 8 := by
    unfold schB at hs
    simp only [Bool.and_eq_true, decide_eq_true_eq] at hs
    omega
  have hform := fun wx hx => form_any t.flat A cap wx hx (by simp only [maxLen]; omega)
  rw [t.form hg hl] at hform
  have hsm := fun wx hx => smay_any S B e0 wx (by simp only [maxLen]; omega) hx
  rw [hs] at hsm
  have hwr := fun wx h1 h2 => write_any S B e0 t A cap wx h1 h2 hl hcap hg hall
  have hany := findI_any (fun o : Wd => (o.c == 3) && decide ((S.length : Int) ≤ o.n)) t.flat 0
  have hno : t.flat.any (fun o : Wd => (o.c == 3) && decide ((S.length : Int) ≤ o.n)) = false := by
    rw [List.any_eq_false]
    intro o ho
    have := (hall o ho).2
    simp only [Bool.and_eq_true, beq_iff_eq, decide_eq_true_eq, not_and]
    intro hc
    have := this hc
    omega
  rw [hno] at hany
  have ka := (Kept.refl (fun _ => False) w).alloc (.cells #[.slice B S.length e0] 23)
  have hal := heap_alloc_new w (.cells #[.slice B S.length e0] 23)
  generalize hbx : w.heap.size = bx at *
  have HBX := Lib.hid hbx
  generalize hW : w.alloc (.cells #[.slice B S.length e0] 23) = W at *
  have hct := fun wx (hk : Kept (fun _ => False) W wx) => contO_any t.flat A cap wx 58 #[.pointer (some ⟨bx, 0, none⟩)] (fun _ o => (o.c == 3) && decide ((S.length : Int) ≤ o.n)) (fun _ Y => Kept (fun _ => False) wx Y) (by unfold maxLen; omega)
    (enters_of Tryz.func58 (by kernel_rfl) rfl) (fun _ Y k => h.same ((ka.trans hk).trans k))
    (fun n x Y k _ => (tok1_any x bx B S.length e0 Y ((hk.trans k).heap hal (fun q => q))).mono (by rintro e Y' ⟨rfl, k1⟩; exact ⟨rfl, Kept.trans k k1⟩)) (Kept.refl _ wx)
  rw [hany] at hct
  have c0 := cell_of_row W bx 0 _ _ _ hal
  simp only [List.getElem?_toArray, List.getElem?_cons_zero] at c0
  have hmf : ∀ (fn : Fn) (first cap : Array Value) (w : World), (Instr.makeFunc fn first cap).run Tryz.prog w = .ok (.func fn first cap) w := fun _ _ _ _ => rfl
  clear hany hno hs hall hg hal
  generalize toksX S t = R at *
  generalize t.flat = L at *
  go_enter Tryz.func25, Tryz.ntmps25
  go_wp2_with fail
  refine (hform _ (h.same ka)).mono ?_
  rintro e w1 ⟨rfl, k1⟩
  have c1 := k1.cell c0 (fun q => q)
  go_wp2_with fail
  refine (hsm _ (hS.same (ka.trans k1))).mono ?_
  rintro e w2 ⟨rfl, k2⟩
  go_wp2_with fail
  refine (hct _ (k1.trans k2)).mono ?_
  rintro e w3 ⟨n3, rfl, k3⟩
  have kk := (k1.trans k2).trans k3
  have c3 := kk.cell c0 (fun q => q)
  go_wp2_with fail
  refine (hwr _ (hS.same (ka.trans kk)) (h.same (ka.trans kk))).mono ?_
  rintro e w4 ⟨v, rfl, hn⟩
  go_wp2_with fail
  go_ret2
  exact ⟨_, rfl, hn.from (ka.trans kk)⟩

set_option maxRecDepth 100000 in
theorem text_show (S : List Cl) (B : Option Addr) (e0 : Nat) (t : Ex) (A : Option Addr) (cap : Nat) (w : World) (hS : Src encC 2 w (fun _ => False) B S) (h : Src encW 3 w (fun _ => False) A t.flat) (hl : t.flat.length ≤ 64) (hcap : t.flat.length ≤ cap) (hg : t.good)
    (hall : ∀ o ∈ t.flat, I64 o.n ∧ (o.c = 3 → o.n < S.length)) (hs : schB S = true) (hne : joinS (toksX S t) ≠ []) (hj : (joinS (toksX S t)).length ≤ 1048576) :
    Calls Tryz.prog 9 #[.slice A t.flat.length cap, .slice B S.length e0] w fun e w' => e = .returned (.tuple #[.string ⟨⟨joinS (toksX S t)⟩⟩, .int .i64 0]) ∧ Kept (fun _ => False) w w' := by
  have htk := tokens_any S B e0 t A cap w hS h hl hcap hg hall hs
  have htl := toks_len S t
  have hjn := fun A2 c2 wx hx => join_any (toksX S t) A2 c2 wx hx hne hj (by omega)
  generalize joinS (toksX S t) = J at *
  generalize toksX S t = T at *
  generalize t.flat = L at *
  go_enter Tryz.func9, Tryz.ntmps9
  go_wp2_with fail
  refine htk.mono ?_
  rintro e w1 ⟨v, rfl, hn⟩
  obtain ⟨A2, c2, rfl, _, _, hsrc⟩ := hn.row.src encT_len (fun _ => False) (fun _ _ q => q)
  go_wp2_with fail
  refine (hjn A2 c2 _ hsrc).mono ?_
  rintro e w2 ⟨rfl, k2⟩
  go_wp2_with fail
  go_ret2
  exact ⟨rfl, hn.kept.trans k2⟩
end Go.Proofs.YtballmombklalaaGreat

/- eval: things, and the answers of words. -/
namespace Go.Proofs.YtballmombklalaaGreat
open Go.RowKit

def numW (n : Int) : Wd := ⟨1, n, []⟩
def strW (t : List UInt8) : Wd := ⟨2, 0, t⟩
/-- A thing as it lies. -/
def thE (x : Wd) : Value := if x.c = 1 then .iface 156 (.int .i64 x.n) else .iface 157 (.string ⟨⟨x.t⟩⟩)
def truthW (b : Bool) : Wd := numW (if b = true then 1 else 0)
def sureE (p : Int × Int) : Except Int Wd := if p.2 = 0 then .ok (numW p.1) else .error p.2
def twoE (c a b : Int) : Except Int Wd :=
  if c = 7 then sureE (addS a b) else if c = 8 then sureE (subS a b) else if c = 9 then sureE (mulS a b) else if c = 10 then sureE (quoS a b) else if c = 11 then sureE (remS a b)
  else if c = 19 then .ok (truthW (a != 0 && b != 0)) else .ok (truthW (a != 0 || b != 0))
def ordB (c n : Int) : Bool := if c = 13 then n == 0 else if c = 14 then n != 0 else if c = 15 then decide (n < 0) else if c = 16 then decide (n ≤ 0) else if c = 17 then decide (0 < n) else decide (0 ≤ n)
def cmpE (c : Int) (a b : Wd) : Except Int Wd := if a.c = b.c then .ok (truthW (ordB c (cmpV a b))) else .error 12
def asN (x : Wd) : Except Int Int := if x.c = 1 then .ok x.n else .error 12
def asT (x : Wd) : Except Int (List UInt8) := if x.c = 1 then .error 12 else .ok x.t
def pairE (c : Int) (a b : Wd) : Except Int Wd :=
  if c = 12 then (match asT a, asT b with
    | .ok x, .ok y => if (x.length : Int) + y.length ≤ 64 then .ok (strW (x ++ y)) else .error 6
    | _, _ => .error 12)
  else if 13 ≤ c ∧ c ≤ 18 then cmpE c a b
  else (match asN a, asN b with
    | .ok x, .ok y => twoE c x y
    | _, _ => .error 12)
/-- A thing that may be. -/
def thB (x : Wd) : Prop := (x.c = 1 ∧ I64 x.n ∧ x.t = []) ∨ (x.c = 2 ∧ x.n = 0 ∧ x.t.length ≤ 64)

def faultE (y : Int) : List PanicEntry := [{ v := .iface 111 (.agg #[.int .i64 y]), recovered := false }]
/-- A call's answer, or its throw. -/
def EP {α : Type} (enc : α → Value) (R : Except Int α) (w : World) (e : Ending) (w' : World) : Prop :=
  match R with
  | .error y => e = .panicked (faultE y) ∧ Kept (fun _ => False) w w'
  | .ok x => e = .returned (enc x) ∧ Kept (fun _ => False) w w'

theorem eneed_yes (why : Int) (w : World) : Calls Tryz.prog 83 #[.bool true, .int .i64 why] w fun e w' => e = .returned (.tuple #[]) ∧ w' = w := by
  go_enter Tryz.func83, Tryz.ntmps83
  go_wp2_with fail
  go_end0
  exact ⟨rfl, rfl⟩
theorem eneed_no (why : Int) (w : World) : Calls Tryz.prog 83 #[.bool false, .int .i64 why] w fun e w' => e = .panicked (faultE why) ∧ w' = w := by
  go_enter Tryz.func83, Tryz.ntmps83
  go_wp2_with fail
  exact ⟨rfl, rfl, rfl⟩

theorem eta_num (x : Int) (w : World) : (Instr.typeAssert (.iface 156 (.int .i64 x)) 119 156 true).run Tryz.prog w = .ok (.tuple #[.int .i64 x, .bool true]) w :=
  ta_yes (P := Tryz.prog) 156 119 _ Tryz.underlying156 (fun l q => by cases q) true w
theorem eta_wnum (s : ByteArray) (w : World) : (Instr.typeAssert (.iface 157 (.string s)) 119 156 true).run Tryz.prog w = .ok (.tuple #[.int .i64 0, .bool false]) w :=
  ta_no (P := Tryz.prog) 157 119 156 _ _ Tryz.underlying156 (fun l q => by cases q) (by decide) w (by kernel_rfl)
theorem eta_words (s : ByteArray) (w : World) : (Instr.typeAssert (.iface 157 (.string s)) 119 157 true).run Tryz.prog w = .ok (.tuple #[.string s, .bool true]) w :=
  ta_yes (P := Tryz.prog) 157 119 _ Tryz.underlying157 (fun l q => by cases q) true w
theorem eta_nwords (x : Int) (w : World) : (Instr.typeAssert (.iface 156 (.int .i64 x)) 119 157 true).run Tryz.prog w = .ok (.tuple #[.string ⟨#[]⟩, .bool false]) w :=
  ta_no (P := Tryz.prog) 156 119 157 _ _ Tryz.underlying157 (fun l q => by cases q) (by decide) w (by kernel_rfl)

theorem asnum_any (x : Wd) (w : World) : Calls Tryz.prog 86 #[thE x] w (EP (fun n => .int .i64 n) (asN x) w) := by
  have hy := fun wx => eneed_yes 12 wx
  have hn := fun wx => eneed_no 12 wx
  obtain ⟨c, n, t⟩ := x
  unfold thE asN
  simp only
  by_cases h1 : c = 1
  · rw [if_pos h1, if_pos h1]
    have hta := fun wx => eta_num n wx
    clear h1
    go_enter Tryz.func86, Tryz.ntmps86
    go_wp2_with fail
    refine (hy _).mono ?_
    rintro e w1 ⟨rfl, rfl⟩
    go_wp2_with fail
    go_ret
    exact ⟨rfl, Kept.refl _ _⟩
  · rw [if_neg h1, if_neg h1]
    have hta := fun wx => eta_wnum ⟨⟨t⟩⟩ wx
    clear h1
    go_enter Tryz.func86, Tryz.ntmps86
    go_wp2_with fail
    refine (hn _).mono ?_
    rintro e w1 ⟨rfl, rfl⟩
    exact ⟨rfl, rfl, Kept.refl _ _⟩
theorem astext_any (x : Wd) (w : World) : Calls Tryz.prog 88 #[thE x] w (EP (fun t => .string ⟨⟨t⟩⟩) (asT x) w) := by
  have hy := fun wx => eneed_yes 12 wx
  have hn := fun wx => eneed_no 12 wx
  obtain ⟨c, n, t⟩ := x
  unfold thE asT
  simp only
  by_cases h1 : c = 1
  · rw [if_pos h1, if_pos h1]
    have hta := fun wx => eta_nwords n wx
    clear h1
    go_enter Tryz.func88, Tryz.ntmps88
    go_wp2_with fail
    refine (hn _).mono ?_
    rintro e w1 ⟨rfl, rfl⟩
    exact ⟨rfl, rfl, Kept.refl _ _⟩
  · rw [if_neg h1, if_neg h1]
    have hta := fun wx => eta_words ⟨⟨t⟩⟩ wx
    clear h1
    go_enter Tryz.func88, Tryz.ntmps88
    go_wp2_with fail
    refine (hy _).mono ?_
    rintro e w1 ⟨rfl, rfl⟩
    go_wp2_with fail
    go_ret
    exact ⟨rfl, Kept.refl _ _⟩
theorem truth_any (b : Bool) (w : World) : Calls Tryz.prog 87 #[.bool b] w fun e w' => e = .returned (.int .i64 (truthW b).n) ∧ w' = w := by
  cases b
  all_goals
    go_enter Tryz.func87, Tryz.ntmps87
    go_wp2_with fail
    go_ret
    exact ⟨rfl, rfl⟩
theorem sure_any (n y : Int) (w : World) : Calls Tryz.prog 84 #[.int .i64 n, .int .i64 y] w (EP (fun x => .int .i64 x.n) (sureE (n, y)) w) := by
  have hy := fun wx => eneed_yes y wx
  have hn := fun wx => eneed_no y wx
  unfold sureE
  simp only
  by_cases h1 : y = 0
  · rw [if_pos h1]
    have h1' : (y == 0) = true := by simpa using h1
    clear h1
    go_enter Tryz.func84, Tryz.ntmps84
    go_wp2_with fail
    refine (hy _).mono ?_
    rintro e w1 ⟨rfl, rfl⟩
    go_wp2_with fail
    go_ret
    exact ⟨rfl, Kept.refl _ _⟩
  · rw [if_neg h1]
    have h1' : (y == 0) = false := by simpa using h1
    clear h1
    go_enter Tryz.func84, Tryz.ntmps84
    go_wp2_with fail
    refine (hn _).mono ?_
    rintro e w1 ⟨rfl, rfl⟩
    exact ⟨rfl, rfl, Kept.refl _ _⟩
theorem sure_num {p : Int × Int} {x : Wd} (h : sureE p = .ok x) : x = numW p.1 := by
  unfold sureE at h
  split at h
  · injection h with h; exact h.symm
  · cases h
theorem thE_num (n : Int) : thE (numW n) = .iface 156 (.int .i64 n) := by unfold thE numW; rw [if_pos rfl]
theorem thE_str (t : List UInt8) : thE (strW t) = .iface 157 (.string ⟨⟨t⟩⟩) := by unfold thE strW; rw [if_neg (show ¬ (2 : Int) = 1 by decide)]

set_option maxHeartbeats 2000000 in
set_option maxRecDepth 100000 in
theorem two_any (c a b : Int) (ha : I64 a) (hb : I64 b) (w : World) : Calls Tryz.prog 117 #[.int .i64 c, .int .i64 a, .int .i64 b] w (EP thE (twoE c a b) w) := by
  have h7 := fun wx => add_any a b wx
  have h8 := fun wx => sub_any a b wx
  have h9 := fun wx => mul_any a b ha hb wx
  have h10 := fun wx => quo_any a b ha hb wx
  have h11 := fun wx => rem_any a b ha hb wx
  have ht := fun z wx => truth_any z wx
  have hs := fun (p : Int × Int) wx => sure_any p.1 p.2 wx
  have hc : c = 7 ∨ c = 8 ∨ c = 9 ∨ c = 10 ∨ c = 11 ∨ c = 19 ∨ (¬ c = 7 ∧ ¬ c = 8 ∧ ¬ c = 9 ∧ ¬ c = 10 ∧ ¬ c = 11 ∧ ¬ c = 19) := by omega
  rcases hc with rfl | rfl | rfl | rfl | rfl | rfl | ⟨g1, g2, g3, g4, g5, g6⟩
  · rw [show twoE 7 a b = sureE (addS a b) from rfl]
    generalize addS a b = p at *
    have hsp := hs p
    have hsn := @sure_num p
    obtain ⟨p1, p2⟩ := p
    simp only at *
    clear hs
    generalize sureE (p1, p2) = R at *
    clear h8 h9 h10 h11 ht
    go_enter Tryz.func117, Tryz.ntmps117
    go_wp2_with fail
    refine (h7 _).mono ?_
    rintro e w1 ⟨rfl, rfl⟩
    go_wp2_with fail
    cases R with
    | error y =>
      refine (hsp _).mono ?_
      rintro e w1 ⟨rfl, k1⟩
      exact ⟨rfl, rfl, k1⟩
    | ok x =>
      have hx := hsn rfl
      subst hx
      refine (hsp _).mono ?_
      rintro e w1 ⟨rfl, k1⟩
      go_wp2_with fail
      go_ret
      exact ⟨by rw [thE_num]; rfl, k1⟩
  · rw [show twoE 8 a b = sureE (subS a b) from rfl]
    generalize subS a b = p at *
    have hsp := hs p
    have hsn := @sure_num p
    obtain ⟨p1, p2⟩ := p
    simp only at *
    clear hs
    generalize sureE (p1, p2) = R at *
    clear h7 h9 h10 h11 ht
    go_enter Tryz.func117, Tryz.ntmps117
    go_wp2_with fail
    refine (h8 _).mono ?_
    rintro e w1 ⟨rfl, rfl⟩
    go_wp2_with fail
    cases R with
    | error y =>
      refine (hsp _).mono ?_
      rintro e w1 ⟨rfl, k1⟩
      exact ⟨rfl, rfl, k1⟩
    | ok x =>
      have hx := hsn rfl
      subst hx
      refine (hsp _).mono ?_
      rintro e w1 ⟨rfl, k1⟩
      go_wp2_with fail
      go_ret
      exact ⟨by rw [thE_num]; rfl, k1⟩
  · rw [show twoE 9 a b = sureE (mulS a b) from rfl]
    generalize mulS a b = p at *
    have hsp := hs p
    have hsn := @sure_num p
    obtain ⟨p1, p2⟩ := p
    simp only at *
    clear hs
    generalize sureE (p1, p2) = R at *
    clear h7 h8 h10 h11 ht
    go_enter Tryz.func117, Tryz.ntmps117
    go_wp2_with fail
    refine (h9 _).mono ?_
    rintro e w1 ⟨rfl, rfl⟩
    go_wp2_with fail
    cases R with
    | error y =>
      refine (hsp _).mono ?_
      rintro e w1 ⟨rfl, k1⟩
      exact ⟨rfl, rfl, k1⟩
    | ok x =>
      have hx := hsn rfl
      subst hx
      refine (hsp _).mono ?_
      rintro e w1 ⟨rfl, k1⟩
      go_wp2_with fail
      go_ret
      exact ⟨by rw [thE_num]; rfl, k1⟩
  · rw [show twoE 10 a b = sureE (quoS a b) from rfl]
    generalize quoS a b = p at *
    have hsp := hs p
    have hsn := @sure_num p
    obtain ⟨p1, p2⟩ := p
    simp only at *
    clear hs
    generalize sureE (p1, p2) = R at *
    clear h7 h8 h9 h11 ht
    go_enter Tryz.func117, Tryz.ntmps117
    go_wp2_with fail
    refine (h10 _).mono ?_
    rintro e w1 ⟨rfl, rfl⟩
    go_wp2_with fail
    cases R with
    | error y =>
      refine (hsp _).mono ?_
      rintro e w1 ⟨rfl, k1⟩
      exact ⟨rfl, rfl, k1⟩
    | ok x =>
      have hx := hsn rfl
      subst hx
      refine (hsp _).mono ?_
      rintro e w1 ⟨rfl, k1⟩
      go_wp2_with fail
      go_ret
      exact ⟨by rw [thE_num]; rfl, k1⟩
  · rw [show twoE 11 a b = sureE (remS a b) from rfl]
    generalize remS a b = p at *
    have hsp := hs p
    have hsn := @sure_num p
    obtain ⟨p1, p2⟩ := p
    simp only at *
    clear hs
    generalize sureE (p1, p2) = R at *
    clear h7 h8 h9 h10 ht
    go_enter Tryz.func117, Tryz.ntmps117
    go_wp2_with fail
    refine (h11 _).mono ?_
    rintro e w1 ⟨rfl, rfl⟩
    go_wp2_with fail
    cases R with
    | error y =>
      refine (hsp _).mono ?_
      rintro e w1 ⟨rfl, k1⟩
      exact ⟨rfl, rfl, k1⟩
    | ok x =>
      have hx := hsn rfl
      subst hx
      refine (hsp _).mono ?_
      rintro e w1 ⟨rfl, k1⟩
      go_wp2_with fail
      go_ret
      exact ⟨by rw [thE_num]; rfl, k1⟩
  · rw [show twoE 19 a b = .ok (truthW (a != 0 && b != 0)) from rfl]
    clear h7 h8 h9 h10 h11 hs
    have htn : ∀ z, thE (truthW z) = .iface 156 (.int .i64 (truthW z).n) := fun z => thE_num _
    by_cases g : a = 0
    · have g' : (a != 0) = false := by simpa using g
      rw [g', Bool.false_and]
      have HT := Lib.hid (htn false)
      clear g htn
      go_enter Tryz.func117, Tryz.ntmps117
      go_wp2_with fail
      refine (ht _ _).mono ?_
      rintro e w1 ⟨rfl, rfl⟩
      go_wp2_with fail
      go_ret
      exact ⟨by rw [HT.out]; rfl, Kept.refl _ _⟩
    · have g' : (a != 0) = true := by simpa using g
      rw [g', Bool.true_and]
      generalize hz : (b != 0) = z
      have HT := Lib.hid (htn z)
      clear g htn
      go_enter Tryz.func117, Tryz.ntmps117
      go_wp2_with fail
      refine (ht _ _).mono ?_
      rintro e w1 ⟨rfl, rfl⟩
      go_wp2_with fail
      go_ret
      exact ⟨by rw [HT.out]; rfl, Kept.refl _ _⟩
  · have e : twoE c a b = .ok (truthW (a != 0 || b != 0)) := by unfold twoE; rw [if_neg g1, if_neg g2, if_neg g3, if_neg g4, if_neg g5, if_neg g6]
    rw [e]
    clear h7 h8 h9 h10 h11 hs e
    have b1 : (c == 7) = false := by simpa using g1
    have b2 : (c == 8) = false := by simpa using g2
    have b3 : (c == 9) = false := by simpa using g3
    have b4 : (c == 10) = false := by simpa using g4
    have b5 : (c == 11) = false := by simpa using g5
    have b6 : (c == 19) = false := by simpa using g6
    have htn : ∀ z, thE (truthW z) = .iface 156 (.int .i64 (truthW z).n) := fun z => thE_num _
    by_cases g : a = 0
    · have g' : (a != 0) = false := by simpa using g
      rw [g', Bool.false_or]
      generalize hz : (b != 0) = z
      have HT := Lib.hid (htn z)
      clear g htn g1 g2 g3 g4 g5 g6
      go_enter Tryz.func117, Tryz.ntmps117
      go_wp2_with fail
      refine (ht _ _).mono ?_
      rintro e w1 ⟨rfl, rfl⟩
      go_wp2_with fail
      go_ret
      exact ⟨by rw [HT.out]; rfl, Kept.refl _ _⟩
    · have g' : (a != 0) = true := by simpa using g
      rw [g', Bool.true_or]
      have HT := Lib.hid (htn true)
      clear g htn g1 g2 g3 g4 g5 g6
      go_enter Tryz.func117, Tryz.ntmps117
      go_wp2_with fail
      refine (ht _ _).mono ?_
      rintro e w1 ⟨rfl, rfl⟩
      go_wp2_with fail
      go_ret
      exact ⟨by rw [HT.out]; rfl, Kept.refl _ _⟩

theorem vnum_any (n : Int) (w : World) : Calls Tryz.prog 158 #[.int .i64 n] w fun e w' => e = .returned (aggW (numW n)) ∧ Kept (fun _ => False) w w' := by
  go_enter Tryz.func158, Tryz.ntmps158
  go_wp2_with fail
  exact bodyPost_ret (v := aggW (numW n)) (by simp [results, Tryz.results158, go_sem, aggW, numW]) rfl ⟨rfl, (Kept.refl _ w).alloc _⟩
theorem enum_any (n : Int) (w : World) : Calls Tryz.prog 178 #[.int .i64 n] w fun e w' => e = .returned (aggW (numW n)) ∧ Kept (fun _ => False) w w' := by
  have hv := fun wx => vnum_any n wx
  unfold aggW numW at hv
  have hb := heap_alloc_new w (.cells #[.int .i64 0, .int .i64 0, .string ⟨#[]⟩] 52)
  go_enter Tryz.func178, Tryz.ntmps178
  go_wp2_with fail
  refine (hv _).mono ?_
  rintro e w1 ⟨rfl, k1⟩
  have hb1 := k1.heap hb (fun q => q)
  have kw := ((Kept.refl (fun _ => False) w).alloc _).trans k1
  have hlt : w.heap.size < w1.heap.size := (Array.getElem?_eq_some_iff.1 hb1).1
  have q := cell_of_row w1 w.heap.size
  have q0 := q 0 _ _ _ hb1
  have q1 := q 1 _ _ _ hb1
  have q2 := q 2 _ _ _ hb1
  simp only [List.getElem?_toArray, List.getElem?_cons_zero, List.getElem?_cons_succ] at q0 q1 q2
  have f0 := frozen_of hb1 0
  have f1 := frozen_of hb1 1
  have f2 := frozen_of hb1 2
  clear q
  have s3 := blk_set (blk_set (blk_set hb1 0 (.int .i64 1)) 1 (.int .i64 n)) 2 (.string ⟨#[]⟩)
  have c0 := cell_of_row _ w.heap.size 0 _ _ _ s3
  have c1 := cell_of_row _ w.heap.size 1 _ _ _ s3
  have c2 := cell_of_row _ w.heap.size 2 _ _ _ s3
  simp only [List.setIfInBounds_toArray, List.set_cons_zero, List.set_cons_succ, List.getElem?_toArray, List.getElem?_cons_zero, List.getElem?_cons_succ] at c0 c1 c2
  have kf := ((kw.setCell (p := ⟨w.heap.size, 0, none⟩) (fun q => absurd q (Nat.lt_irrefl _)) (.int .i64 1)).setCell (p := ⟨w.heap.size, 1, none⟩) (fun q => absurd q (Nat.lt_irrefl _)) (.int .i64 n)).setCell (p := ⟨w.heap.size, 2, none⟩) (fun q => absurd q (Nat.lt_irrefl _)) (.string ⟨#[]⟩)
  go_wp2_with fail
  exact bodyPost_ret (v := aggW (numW n)) (by simp [results, Tryz.results178, go_sem, aggW, numW, c0, c1, c2]) rfl ⟨rfl, kf⟩
theorem ewords_any (t : List UInt8) (w : World) : Calls Tryz.prog 179 #[.string ⟨⟨t⟩⟩] w fun e w' => e = .returned (aggW (strW t)) ∧ Kept (fun _ => False) w w' := by
  go_enter Tryz.func179, Tryz.ntmps179
  go_wp2_with fail
  exact bodyPost_ret (v := aggW (strW t)) (by simp [results, Tryz.results179, go_sem, aggW, strW]) rfl ⟨rfl, (Kept.refl _ w).alloc _⟩
end Go.Proofs.YtballmombklalaaGreat

/- eval: compare, pair. -/
namespace Go.Proofs.YtballmombklalaaGreat
open Go.RowKit

theorem thB_cases {x : Wd} (h : thB x) : (∃ n, x = numW n ∧ I64 n) ∨ (∃ t, x = strW t ∧ t.length ≤ 64) := by
  obtain ⟨c, n, t⟩ := x
  rcases h with ⟨h1, h2, h3⟩ | ⟨h1, h2, h3⟩
  · simp only at h1 h2 h3
    subst h1 h3
    exact .inl ⟨n, rfl, h2⟩
  · simp only at h1 h2 h3
    subst h1 h2
    exact .inr ⟨t, rfl, h3⟩
theorem ord_n (c n : Int) (z : Bool) (h : ordB c n = z) : thE (truthW (ordB c n)) = .iface 156 (.int .i64 (truthW z).n) := by rw [h]; exact thE_num _

set_option maxHeartbeats 4000000 in
set_option maxRecDepth 100000 in
theorem compare_any (c : Int) (a b : Wd) (ha : thB a) (hb : thB b) (hc : 13 ≤ c ∧ c ≤ 18) (w : World) : Calls Tryz.prog 116 #[.int .i64 c, thE a, thE b] w (EP thE (cmpE c a b) w) := by
  have hmn : ∀ (n : Int) (W : World), (method 344 156 (.int .i64 n) "rescind/eval.value").run Tryz.prog W = .ok (178, .int .i64 n) W := fun _ _ => by kernel_rfl
  have hmw : ∀ (s : ByteArray) (W : World), (method 344 157 (.string s) "rescind/eval.value").run Tryz.prog W = .ok (179, .string s) W := fun _ _ => by kernel_rfl
  have hn := fun wx => eneed_no 12 wx
  have hy := fun wx => eneed_yes 12 wx
  have ht := fun z wx => truth_any z wx
  have hcc : c = 13 ∨ c = 14 ∨ c = 15 ∨ c = 16 ∨ c = 17 ∨ c = 18 := by omega
  rcases thB_cases ha with ⟨an, rfl, _⟩ | ⟨at_, rfl, _⟩ <;> rcases thB_cases hb with ⟨bn, rfl, _⟩ | ⟨bt_, rfl, _⟩
  · have h1 := fun wx => enum_any an wx
    have h2 := fun wx => enum_any bn wx
    rw [thE_num an, thE_num bn]
    simp only [aggW, numW, strW] at h1 h2
    have hcm : cmpE c (numW an) (numW bn) = .ok (truthW (ordB c (cmpV (numW an) (numW bn)))) := by unfold cmpE; exact if_pos rfl
    rw [hcm]
    have hv := fun wx => vcmp_any (numW an) (numW bn) wx
    unfold aggW at hv
    generalize cmpV (numW an) (numW bn) = n at *
    simp only [numW, strW] at hv
    have HO := Lib.hid (ord_n c n)
    clear hcm
    rcases hcc with rfl | rfl | rfl | rfl | rfl | rfl
    · go_enter Tryz.func116, Tryz.ntmps116
      go_wp2_with fail
      refine (h1 _).mono ?_
      rintro e w1 ⟨rfl, k1⟩
      go_wp2_with fail
      refine (h2 _).mono ?_
      rintro e w2 ⟨rfl, k2⟩
      have kw := k1.trans k2
      have kv := (kw.alloc (.cells #[.int .i64 1, .int .i64 an, .string ⟨⟨[]⟩⟩] 52)).alloc (.cells #[.int .i64 1, .int .i64 bn, .string ⟨⟨[]⟩⟩] 52)
      clear kw
      go_wp2_with fail
      refine (hy _).mono ?_
      rintro e w3 ⟨rfl, rfl⟩
      go_wp2_with fail
      refine (hv _).mono ?_
      rintro e w4 ⟨rfl, k4⟩
      go_wp2_with fail
      refine (ht _ _).mono ?_
      rintro e w5 ⟨rfl, rfl⟩
      go_wp2_with fail
      go_ret
      exact ⟨by rw [HO.out (n == 0) rfl]; rfl, kv.trans k4⟩
    · go_enter Tryz.func116, Tryz.ntmps116
      go_wp2_with fail
      refine (h1 _).mono ?_
      rintro e w1 ⟨rfl, k1⟩
      go_wp2_with fail
      refine (h2 _).mono ?_
      rintro e w2 ⟨rfl, k2⟩
      have kw := k1.trans k2
      have kv := (kw.alloc (.cells #[.int .i64 1, .int .i64 an, .string ⟨⟨[]⟩⟩] 52)).alloc (.cells #[.int .i64 1, .int .i64 bn, .string ⟨⟨[]⟩⟩] 52)
      clear kw
      go_wp2_with fail
      refine (hy _).mono ?_
      rintro e w3 ⟨rfl, rfl⟩
      go_wp2_with fail
      refine (hv _).mono ?_
      rintro e w4 ⟨rfl, k4⟩
      go_wp2_with fail
      refine (ht _ _).mono ?_
      rintro e w5 ⟨rfl, rfl⟩
      go_wp2_with fail
      go_ret
      exact ⟨by rw [HO.out (n != 0) rfl]; rfl, kv.trans k4⟩
    · go_enter Tryz.func116, Tryz.ntmps116
      go_wp2_with fail
      refine (h1 _).mono ?_
      rintro e w1 ⟨rfl, k1⟩
      go_wp2_with fail
      refine (h2 _).mono ?_
      rintro e w2 ⟨rfl, k2⟩
      have kw := k1.trans k2
      have kv := (kw.alloc (.cells #[.int .i64 1, .int .i64 an, .string ⟨⟨[]⟩⟩] 52)).alloc (.cells #[.int .i64 1, .int .i64 bn, .string ⟨⟨[]⟩⟩] 52)
      clear kw
      go_wp2_with fail
      refine (hy _).mono ?_
      rintro e w3 ⟨rfl, rfl⟩
      go_wp2_with fail
      refine (hv _).mono ?_
      rintro e w4 ⟨rfl, k4⟩
      go_wp2_with fail
      refine (ht _ _).mono ?_
      rintro e w5 ⟨rfl, rfl⟩
      go_wp2_with fail
      go_ret
      exact ⟨by rw [HO.out (decide (n < 0)) rfl]; rfl, kv.trans k4⟩
    · go_enter Tryz.func116, Tryz.ntmps116
      go_wp2_with fail
      refine (h1 _).mono ?_
      rintro e w1 ⟨rfl, k1⟩
      go_wp2_with fail
      refine (h2 _).mono ?_
      rintro e w2 ⟨rfl, k2⟩
      have kw := k1.trans k2
      have kv := (kw.alloc (.cells #[.int .i64 1, .int .i64 an, .string ⟨⟨[]⟩⟩] 52)).alloc (.cells #[.int .i64 1, .int .i64 bn, .string ⟨⟨[]⟩⟩] 52)
      clear kw
      go_wp2_with fail
      refine (hy _).mono ?_
      rintro e w3 ⟨rfl, rfl⟩
      go_wp2_with fail
      refine (hv _).mono ?_
      rintro e w4 ⟨rfl, k4⟩
      go_wp2_with fail
      refine (ht _ _).mono ?_
      rintro e w5 ⟨rfl, rfl⟩
      go_wp2_with fail
      go_ret
      exact ⟨by rw [HO.out (decide (n ≤ 0)) rfl]; rfl, kv.trans k4⟩
    · go_enter Tryz.func116, Tryz.ntmps116
      go_wp2_with fail
      refine (h1 _).mono ?_
      rintro e w1 ⟨rfl, k1⟩
      go_wp2_with fail
      refine (h2 _).mono ?_
      rintro e w2 ⟨rfl, k2⟩
      have kw := k1.trans k2
      have kv := (kw.alloc (.cells #[.int .i64 1, .int .i64 an, .string ⟨⟨[]⟩⟩] 52)).alloc (.cells #[.int .i64 1, .int .i64 bn, .string ⟨⟨[]⟩⟩] 52)
      clear kw
      go_wp2_with fail
      refine (hy _).mono ?_
      rintro e w3 ⟨rfl, rfl⟩
      go_wp2_with fail
      refine (hv _).mono ?_
      rintro e w4 ⟨rfl, k4⟩
      go_wp2_with fail
      refine (ht _ _).mono ?_
      rintro e w5 ⟨rfl, rfl⟩
      go_wp2_with fail
      go_ret
      exact ⟨by rw [HO.out (decide (0 < n)) rfl]; rfl, kv.trans k4⟩
    · go_enter Tryz.func116, Tryz.ntmps116
      go_wp2_with fail
      refine (h1 _).mono ?_
      rintro e w1 ⟨rfl, k1⟩
      go_wp2_with fail
      refine (h2 _).mono ?_
      rintro e w2 ⟨rfl, k2⟩
      have kw := k1.trans k2
      have kv := (kw.alloc (.cells #[.int .i64 1, .int .i64 an, .string ⟨⟨[]⟩⟩] 52)).alloc (.cells #[.int .i64 1, .int .i64 bn, .string ⟨⟨[]⟩⟩] 52)
      clear kw
      go_wp2_with fail
      refine (hy _).mono ?_
      rintro e w3 ⟨rfl, rfl⟩
      go_wp2_with fail
      refine (hv _).mono ?_
      rintro e w4 ⟨rfl, k4⟩
      go_wp2_with fail
      refine (ht _ _).mono ?_
      rintro e w5 ⟨rfl, rfl⟩
      go_wp2_with fail
      go_ret
      exact ⟨by rw [HO.out (decide (0 ≤ n)) rfl]; rfl, kv.trans k4⟩
  · have h1 := fun wx => enum_any an wx
    have h2 := fun wx => ewords_any bt_ wx
    rw [thE_num an, thE_str bt_]
    simp only [aggW, numW, strW] at h1 h2
    have hcm : cmpE c (numW an) (strW bt_) = .error 12 := by unfold cmpE; rw [if_neg (by simp [numW, strW])]
    rw [hcm]
    clear hcm hcc hc
    go_enter Tryz.func116, Tryz.ntmps116
    go_wp2_with fail
    refine (h1 _).mono ?_
    rintro e w1 ⟨rfl, k1⟩
    go_wp2_with fail
    refine (h2 _).mono ?_
    rintro e w2 ⟨rfl, k2⟩
    have kw := k1.trans k2
    have kv := (kw.alloc (.cells #[.int .i64 1, .int .i64 an, .string ⟨⟨[]⟩⟩] 52)).alloc (.cells #[.int .i64 2, .int .i64 0, .string ⟨⟨bt_⟩⟩] 52)
    clear kw
    go_wp2_with fail
    refine (hn _).mono ?_
    rintro e w3 ⟨rfl, rfl⟩
    exact ⟨rfl, rfl, kv⟩
  · have h1 := fun wx => ewords_any at_ wx
    have h2 := fun wx => enum_any bn wx
    rw [thE_str at_, thE_num bn]
    simp only [aggW, numW, strW] at h1 h2
    have hcm : cmpE c (strW at_) (numW bn) = .error 12 := by unfold cmpE; rw [if_neg (by simp [numW, strW])]
    rw [hcm]
    clear hcm hcc hc
    go_enter Tryz.func116, Tryz.ntmps116
    go_wp2_with fail
    refine (h1 _).mono ?_
    rintro e w1 ⟨rfl, k1⟩
    go_wp2_with fail
    refine (h2 _).mono ?_
    rintro e w2 ⟨rfl, k2⟩
    have kw := k1.trans k2
    have kv := (kw.alloc (.cells #[.int .i64 2, .int .i64 0, .string ⟨⟨at_⟩⟩] 52)).alloc (.cells #[.int .i64 1, .int .i64 bn, .string ⟨⟨[]⟩⟩] 52)
    clear kw
    go_wp2_with fail
    refine (hn _).mono ?_
    rintro e w3 ⟨rfl, rfl⟩
    exact ⟨rfl, rfl, kv⟩
  · have h1 := fun wx => ewords_any at_ wx
    have h2 := fun wx => ewords_any bt_ wx
    rw [thE_str at_, thE_str bt_]
    simp only [aggW, numW, strW] at h1 h2
    have hcm : cmpE c (strW at_) (strW bt_) = .ok (truthW (ordB c (cmpV (strW at_) (strW bt_)))) := by unfold cmpE; exact if_pos rfl
    rw [hcm]
    have hv := fun wx => vcmp_any (strW at_) (strW bt_) wx
    unfold aggW at hv
    generalize cmpV (strW at_) (strW bt_) = n at *
    simp only [numW, strW] at hv
    have HO := Lib.hid (ord_n c n)
    clear hcm
    rcases hcc with rfl | rfl | rfl | rfl | rfl | rfl
    · go_enter Tryz.func116, Tryz.ntmps116
      go_wp2_with fail
      refine (h1 _).mono ?_
      rintro e w1 ⟨rfl, k1⟩
      go_wp2_with fail
      refine (h2 _).mono ?_
      rintro e w2 ⟨rfl, k2⟩
      have kw := k1.trans k2
      have kv := (kw.alloc (.cells #[.int .i64 2, .int .i64 0, .string ⟨⟨at_⟩⟩] 52)).alloc (.cells #[.int .i64 2, .int .i64 0, .string ⟨⟨bt_⟩⟩] 52)
      clear kw
      go_wp2_with fail
      refine (hy _).mono ?_
      rintro e w3 ⟨rfl, rfl⟩
      go_wp2_with fail
      refine (hv _).mono ?_
      rintro e w4 ⟨rfl, k4⟩
      go_wp2_with fail
      refine (ht _ _).mono ?_
      rintro e w5 ⟨rfl, rfl⟩
      go_wp2_with fail
      go_ret
      exact ⟨by rw [HO.out (n == 0) rfl]; rfl, kv.trans k4⟩
    · go_enter Tryz.func116, Tryz.ntmps116
      go_wp2_with fail
      refine (h1 _).mono ?_
      rintro e w1 ⟨rfl, k1⟩
      go_wp2_with fail
      refine (h2 _).mono ?_
      rintro e w2 ⟨rfl, k2⟩
      have kw := k1.trans k2
      have kv := (kw.alloc (.cells #[.int .i64 2, .int .i64 0, .string ⟨⟨at_⟩⟩] 52)).alloc (.cells #[.int .i64 2, .int .i64 0, .string ⟨⟨bt_⟩⟩] 52)
      clear kw
      go_wp2_with fail
      refine (hy _).mono ?_
      rintro e w3 ⟨rfl, rfl⟩
      go_wp2_with fail
      refine (hv _).mono ?_
      rintro e w4 ⟨rfl, k4⟩
      go_wp2_with fail
      refine (ht _ _).mono ?_
      rintro e w5 ⟨rfl, rfl⟩
      go_wp2_with fail
      go_ret
      exact ⟨by rw [HO.out (n != 0) rfl]; rfl, kv.trans k4⟩
    · go_enter Tryz.func116, Tryz.ntmps116
      go_wp2_with fail
      refine (h1 _).mono ?_
      rintro e w1 ⟨rfl, k1⟩
      go_wp2_with fail
      refine (h2 _).mono ?_
      rintro e w2 ⟨rfl, k2⟩
      have kw := k1.trans k2
      have kv := (kw.alloc (.cells #[.int .i64 2, .int .i64 0, .string ⟨⟨at_⟩⟩] 52)).alloc (.cells #[.int .i64 2, .int .i64 0, .string ⟨⟨bt_⟩⟩] 52)
      clear kw
      go_wp2_with fail
      refine (hy _).mono ?_
      rintro e w3 ⟨rfl, rfl⟩
      go_wp2_with fail
      refine (hv _).mono ?_
      rintro e w4 ⟨rfl, k4⟩
      go_wp2_with fail
      refine (ht _ _).mono ?_
      rintro e w5 ⟨rfl, rfl⟩
      go_wp2_with fail
      go_ret
      exact ⟨by rw [HO.out (decide (n < 0)) rfl]; rfl, kv.trans k4⟩
    · go_enter Tryz.func116, Tryz.ntmps116
      go_wp2_with fail
      refine (h1 _).mono ?_
      rintro e w1 ⟨rfl, k1⟩
      go_wp2_with fail
      refine (h2 _).mono ?_
      rintro e w2 ⟨rfl, k2⟩
      have kw := k1.trans k2
      have kv := (kw.alloc (.cells #[.int .i64 2, .int .i64 0, .string ⟨⟨at_⟩⟩] 52)).alloc (.cells #[.int .i64 2, .int .i64 0, .string ⟨⟨bt_⟩⟩] 52)
      clear kw
      go_wp2_with fail
      refine (hy _).mono ?_
      rintro e w3 ⟨rfl, rfl⟩
      go_wp2_with fail
      refine (hv _).mono ?_
      rintro e w4 ⟨rfl, k4⟩
      go_wp2_with fail
      refine (ht _ _).mono ?_
      rintro e w5 ⟨rfl, rfl⟩
      go_wp2_with fail
      go_ret
      exact ⟨by rw [HO.out (decide (n ≤ 0)) rfl]; rfl, kv.trans k4⟩
    · go_enter Tryz.func116, Tryz.ntmps116
      go_wp2_with fail
      refine (h1 _).mono ?_
      rintro e w1 ⟨rfl, k1⟩
      go_wp2_with fail
      refine (h2 _).mono ?_
      rintro e w2 ⟨rfl, k2⟩
      have kw := k1.trans k2
      have kv := (kw.alloc (.cells #[.int .i64 2, .int .i64 0, .string ⟨⟨at_⟩⟩] 52)).alloc (.cells #[.int .i64 2, .int .i64 0, .string ⟨⟨bt_⟩⟩] 52)
      clear kw
      go_wp2_with fail
      refine (hy _).mono ?_
      rintro e w3 ⟨rfl, rfl⟩
      go_wp2_with fail
      refine (hv _).mono ?_
      rintro e w4 ⟨rfl, k4⟩
      go_wp2_with fail
      refine (ht _ _).mono ?_
      rintro e w5 ⟨rfl, rfl⟩
      go_wp2_with fail
      go_ret
      exact ⟨by rw [HO.out (decide (0 < n)) rfl]; rfl, kv.trans k4⟩
    · go_enter Tryz.func116, Tryz.ntmps116
      go_wp2_with fail
      refine (h1 _).mono ?_
      rintro e w1 ⟨rfl, k1⟩
      go_wp2_with fail
      refine (h2 _).mono ?_
      rintro e w2 ⟨rfl, k2⟩
      have kw := k1.trans k2
      have kv := (kw.alloc (.cells #[.int .i64 2, .int .i64 0, .string ⟨⟨at_⟩⟩] 52)).alloc (.cells #[.int .i64 2, .int .i64 0, .string ⟨⟨bt_⟩⟩] 52)
      clear kw
      go_wp2_with fail
      refine (hy _).mono ?_
      rintro e w3 ⟨rfl, rfl⟩
      go_wp2_with fail
      refine (hv _).mono ?_
      rintro e w4 ⟨rfl, k4⟩
      go_wp2_with fail
      refine (ht _ _).mono ?_
      rintro e w5 ⟨rfl, rfl⟩
      go_wp2_with fail
      go_ret
      exact ⟨by rw [HO.out (decide (0 ≤ n)) rfl]; rfl, kv.trans k4⟩
end Go.Proofs.YtballmombklalaaGreat
