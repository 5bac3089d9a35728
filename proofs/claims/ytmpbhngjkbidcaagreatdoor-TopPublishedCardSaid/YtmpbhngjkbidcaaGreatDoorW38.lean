/-
  The walk of events, of the program: the valid notices, in groups by event.
-/
import Derived.Test.YtmpbhngjkbidcaaGreatDoorW36
import Derived.Test.YtmpbhngjkbidcaaGreatDoorW37
import Derived.Deep.RegionLaw
import Derived.Deep.AppendLies
namespace Go.Proofs.YtmpbhngjkbidcaaGreatDoor
open Go.RowKit Al
attribute [local go_sem ↓] Go.wp_at_zero Go.wp_at_succ

/-- The valid notices, in groups, in memory of the call's own, or an error. -/
def EvT (ks : List (Int × Int)) (q : Int) (L : List It) (k : Int) (w : World) (e : Ending) (w' : World) : Prop :=
  (k = 0 → ∃ (mb B : Nat) (f : List UInt8 → Option Value), e = .returned (.tuple #[.map (some mb), .int .i64 0]) ∧ Grp w' B mb (validN ks q L) f ∧ w.heap.size ≤ mb) ∧ (¬ k = 0 → e = .returned (.tuple #[.map none, .int .i64 k])) ∧ Below w.heap.size w w'
theorem Grp.start {w : World} {mb B : Nat} (h : MapNs w mb 0 (fun _ => none)) (hb : mb < B) : Grp w B mb [] (fun _ => none) :=
  ⟨h, fun _ _ h => (nomatch h), fun _ _ => rfl, fun _ _ h => (nomatch h), fun _ _ _ _ h => (nomatch h), hb⟩
theorem filtEv_is (ks : List (Int × Int)) (q : Int) (K : Option Addr) (kc g : Nat) (L : List It) (N : Option Addr) (nc : Nat) (F : List It) (w : World) (hF : validN ks q L = F) (hL : Sl w w.heap.size 10 N L.length nc (itCells L)) (hI : ∀ x ∈ L, NIn w x.n x.A x.c x.S x.sc) (hlen : L.length ≤ 1048576) (hr : RolA w g ks q K kc) :
    Calls Tryz.prog 62 #[.slice N L.length nc, .func (.func 104) #[] #[.pointer (some ⟨g, 0, none⟩)]] w (OwnIts F w) := hF ▸ filtEv_ ks q K kc g L N nc w hL hI hlen hr
theorem validN_mem {ks : List (Int × Int)} {q : Int} {L : List It} {x : It} (h : x ∈ validN ks q L) : x ∈ L ∧ okA x.n.a = true := by
  obtain ⟨h1, h2⟩ := List.mem_filter.1 h
  refine ⟨h1, ?_⟩
  cases hk : okA x.n.a with
  | true => rfl
  | false => rw [noticeE_bad hk] at h2; cases h2

set_option maxRecDepth 100000 in
set_option maxHeartbeats 2000000 in
theorem events_e (ks : List (Int × Int)) (q : Int) (K : Option Addr) (kc : Nat) (L : List It) (N : Option Addr) (nc : Nat) (v : Int) (w : World) (hv : manyE ks q L.length = v) (hv0 : ¬ v = 0) (hr : Rin w ks K kc) (hlen : L.length ≤ 1152921504606846976) :
    Calls Tryz.prog 59 #[rollV ks K kc q, .slice N L.length nc] w (EvT ks q L v w) := by
  have HR := Lib.hid hr
  clear hr
  unfold manyE at hv
  cases ho : rollOk ks q with
  | false =>
    rw [ho] at hv
    have hv1 : v = 104 := hv.symm
    subst hv1
    have HO : Hid (errA (rollOk ks q) 104 = 104) := by rw [ho]; rfl
    clear hv ho
    go_enter Tryz.func59, Tryz.ntmps59
    go_wp2_with fail
    refine (CheckRoll_is ks q K kc _ 104 HO.out (HR.out.below (by (repeat (first | exact Below.refl _ _ | assumption | refine below_drewN ?_ _ | refine Below.drew ?_ | refine Below.setCell ?_ (by first | omega | (simp; done) | (simp; omega)) _ | refine Below.alloc ?_ (by first | omega | (simp; done) | (simp; omega)) _))))).mono ?_
    rintro e w1 ⟨rfl, hb⟩
    obtain ⟨hcw1, hfw1⟩ := bcell hb
    have Hw1 := Lib.hid ((show Below w.heap.size w _ from (by repeat (first | exact Below.refl _ _ | assumption | refine below_drewN ?_ _ | refine Below.drew ?_ | refine Below.setCell ?_ (by first | omega | (simp; done) | (simp; omega)) _ | refine Below.alloc ?_ (by first | omega | (simp; done) | (simp; omega)) _))).trans (hb.mono (by first | omega | (simp; done) | (simp; omega))))
    have hzw1 := hb.size
    try simp at hzw1
    clear hb
    go_wp2_with fail
    go_ret2
    exact ⟨fun h => absurd h (by decide), fun _ => rfl, Hw1.out⟩
  | true =>
    rw [ho] at hv
    have HO : Hid (errA (rollOk ks q) 104 = 0) := by rw [ho]; rfl
    have hlt : 64 < L.length := by
      by_cases h : 64 < L.length
      · exact h
      · exfalso
        simp [h] at hv
        exact hv0 hv.symm
    have hv1 : v = 3 := by simp [hlt] at hv; exact hv.symm
    subst hv1
    clear hv ho
    go_enter Tryz.func59, Tryz.ntmps59
    go_wp2_with fail
    refine (CheckRoll_is ks q K kc _ 0 HO.out (HR.out.below (by (repeat (first | exact Below.refl _ _ | assumption | refine below_drewN ?_ _ | refine Below.drew ?_ | refine Below.setCell ?_ (by first | omega | (simp; done) | (simp; omega)) _ | refine Below.alloc ?_ (by first | omega | (simp; done) | (simp; omega)) _))))).mono ?_
    rintro e w1 ⟨rfl, hb⟩
    obtain ⟨hcw1, hfw1⟩ := bcell hb
    have Hw1 := Lib.hid ((show Below w.heap.size w _ from (by repeat (first | exact Below.refl _ _ | assumption | refine below_drewN ?_ _ | refine Below.drew ?_ | refine Below.setCell ?_ (by first | omega | (simp; done) | (simp; omega)) _ | refine Below.alloc ?_ (by first | omega | (simp; done) | (simp; omega)) _))).trans (hb.mono (by first | omega | (simp; done) | (simp; omega))))
    have hzw1 := hb.size
    try simp at hzw1
    clear hb
    go_wp2_with fail
    go_ret2
    exact ⟨fun h => absurd h (by decide), fun _ => rfl, Hw1.out⟩

theorem Grp.grow {w w4 w5 : World} {B mb : Nat} {L : List It} {f : List UInt8 → Option Value} {A : Option Addr} {n c : Nat} {xs : List Value} (h : Grp w B mb L f) (hr : w.ownsRow B 72 10 (.slice A n c) n xs) (h4 : Below w.heap.size w w4) (hg : w4.grownBy w5 (Value.slice A n c).ownBlock) : MapNs w5 mb L.length f := by
  have K5 : Kp (fun i => (Value.slice A n c).ownBlock = some i) w w5 := (Kp.of_below h4).grown hg (fun k hk => .inl hk)
  refine h.map.keep K5 (fun e => ?_)
  have := (own_lt hr e).1
  have := h.mbB
  omega
theorem heap_new2 (w : World) (o o2 : Obj) : ((w.alloc o).alloc o2).drew.heap[w.heap.size + 1]? = some o2 := by
  have h := heap_alloc_new (w.alloc o) o2
  rwa [show (w.alloc o).heap.size = w.heap.size + 1 by simp] at h
def EpRel (w3 : World) (mb : Nat) (F : List It) (i : Value) (wr : World) : Prop := ∃ (k : Nat) (f : List UInt8 → Option Value), k ≤ F.length ∧ i = .int .i64 k ∧ Grp wr w3.heap.size mb (F.take k) f ∧ Kp (fun i => i = mb) w3 wr
set_option maxRecDepth 100000 in
set_option maxHeartbeats 2000000 in
theorem events_t (ks : List (Int × Int)) (q : Int) (K : Option Addr) (kc : Nat) (L : List It) (N : Option Addr) (nc : Nat) (w : World) (hv : manyE ks q L.length = 0) (hr : Rin w ks K kc) (ht : Rdy w) (hL : Sl w w.heap.size 10 N L.length nc (itCells L)) (hI : ∀ x ∈ L, NIn w x.n x.A x.c x.S x.sc) (hlen : L.length ≤ 1048576) :
    Calls Tryz.prog 59 #[rollV ks K kc q, .slice N L.length nc] w (EvT ks q L 0 w) := by
  have HR := Lib.hid hr
  have HT := Lib.hid ht
  have HL := Lib.hid hL
  have HI := Lib.hid hI
  obtain ⟨ho, h64⟩ := manyE_zero hv
  have HRO := Lib.hid ho
  have HO : Hid (errA (rollOk ks q) 104 = 0) := by rw [ho]; rfl
  obtain ⟨F, hF⟩ : ∃ F, validN ks q L = F := ⟨_, rfl⟩
  have HF := Lib.hid hF
  have hFl : F.length ≤ 64 := by rw [← hF]; exact Nat.le_trans (List.length_filter_le _ _) h64
  have HFM : Hid (∀ x ∈ F, x ∈ L ∧ okA x.n.a = true) := fun x hx => validN_mem (by rw [hF]; exact hx)
  obtain ⟨i0, hi, hz0, hz1, hz2⟩ := info_parts infoNtc
  clear hr ht hL hI ho hv hF
  go_enter Tryz.func59, Tryz.ntmps59
  go_wp2_with fail
  refine (CheckRoll_is ks q K kc _ 0 HO.out (HR.out.below (by (repeat (first | exact Below.refl _ _ | assumption | refine below_drewN ?_ _ | refine Below.drew ?_ | refine Below.setCell ?_ (by first | omega | (simp; done) | (simp; omega)) _ | refine Below.alloc ?_ (by first | omega | (simp; done) | (simp; omega)) _))))).mono ?_
  rintro e w1 ⟨rfl, hb⟩
  obtain ⟨hcw1, hfw1⟩ := bcell hb
  have Hw1 := Lib.hid ((show Below w.heap.size w _ from (by repeat (first | exact Below.refl _ _ | assumption | refine below_drewN ?_ _ | refine Below.drew ?_ | refine Below.setCell ?_ (by first | omega | (simp; done) | (simp; omega)) _ | refine Below.alloc ?_ (by first | omega | (simp; done) | (simp; omega)) _))).trans (hb.mono (by first | omega | (simp; done) | (simp; omega))))
  have hzw1 := hb.size
  try simp at hzw1
  clear hb
  have hw1 : w.heap.size < w1.heap.size := by first | omega | (simp at hzw1; omega)
  have c0 : w1.cell? ⟨w.heap.size, 0, none⟩ = some (.slice K ks.length kc) := by rw [hcw1 _ _ (by simp)]; simp [go_sem]
  have c1 : w1.cell? ⟨w.heap.size, 1, none⟩ = some (.int .i64 q) := by rw [hcw1 _ _ (by simp)]; simp [go_sem]
  have HRA : Hid (RolA w1 w.heap.size ks q K kc) := ⟨HR.out.below Hw1.out, HRO.out, c0, c1, hw1, HT.out.below Hw1.out⟩
  have hmm := @run_makeMap Tryz.prog
  go_wp2_with (go_at_call 62; refine (filtEv_is ks q K kc w.heap.size L N nc F _ HF.out ((HL.out.below (Below.trans Hw1.out (by (repeat (first | exact Below.refl _ _ | assumption | refine below_drewN ?_ _ | refine Below.drew ?_ | refine Below.setCell ?_ (by first | omega | (simp; done) | (simp; omega)) _ | refine Below.alloc ?_ (by first | omega | (simp; done) | (simp; omega)) _))))).more (by first | omega | (simp; done) | (simp; omega))) (fun x hx => (HI.out x hx).below (Below.trans Hw1.out (by (repeat (first | exact Below.refl _ _ | assumption | refine below_drewN ?_ _ | refine Below.drew ?_ | refine Below.setCell ?_ (by first | omega | (simp; done) | (simp; omega)) _ | refine Below.alloc ?_ (by first | omega | (simp; done) | (simp; omega)) _))))) hlen (HRA.out.below (by (repeat (first | exact Below.refl _ _ | assumption | refine below_drewN ?_ _ | refine Below.drew ?_ | refine Below.setCell ?_ (by first | omega | (simp; done) | (simp; omega)) _ | refine Below.alloc ?_ (by first | omega | (simp; done) | (simp; omega)) _))))).mono ?_; rintro e w3 ⟨P, fc, rfl, hown3, hb3⟩; have H3 := Lib.hid ((show Below w1.heap.size w1 _ from (by (repeat (first | exact Below.refl _ _ | assumption | refine below_drewN ?_ _ | refine Below.drew ?_ | refine Below.setCell ?_ (by first | omega | (simp; done) | (simp; omega)) _ | refine Below.alloc ?_ (by first | omega | (simp; done) | (simp; omega)) _)))).trans (hb3.mono (by first | omega | (simp; done) | (simp; omega)))); have hz3 := hb3.size; (try simp at hz3); have HM3 := Lib.hid ((MapNs.made w1).keep (F := fun _ => False) (Kp.of_below hb3) (fun f => f)); have HP : Hid (SlR w3 (fun i => i ≠ w1.heap.size) 10 P F.length fc (itCells F)) := SlR.of_own hown3 (fun i h1 _ => by simp at h1; omega); clear hb3 hown3 hmm)
  go_loopw [23] (fun i wr => EpRel w3 w1.heap.size F i wr) (fun i _ => F.length - (intOf i).toNat)
  case atStart => exact ⟨0, _, Nat.zero_le _, rfl, Grp.start HM3.out (by omega), Kp.refl _ _⟩
  case round =>
    obtain ⟨k, f, hk, rfl, hG, hKp⟩ := hrel
    have hsz := hKp.size
    have HG := Lib.hid hG
    have HK := Lib.hid hKp
    clear hG hKp
    by_cases hlt : k < F.length
    · have HPR := Lib.hid (HP.out.keep HK.out (fun i hi f => hi f)).sl
      obtain ⟨b, off, rfl, hb, y0, y1, y2, y3, y4, y5, y6, y7, y8, y9⟩ := HPR.out.it_at hlt
      have j0 : (0 : Int) ≤ (k : Int) := by omega
      have j1 : (k : Int) < (F.length : Int) := by omega
      have hs := okA_short (HFM.out F[k] (List.getElem_mem hlt)).2
      have hev := okA_ev (HFM.out F[k] (List.getElem_mem hlt)).2
      have HX : Hid (F.take (k + 1) = F.take k ++ [F[k]]) := List.take_succ_eq_append_getElem hlt
      obtain ⟨x, hx⟩ : ∃ x, x = F[k] := ⟨_, rfl⟩
      rw [← hx] at y0 y1 y2 y3 y4 y5 y6 y7 y8 y9 hs HX hev
      clear hx
      obtain ⟨M, hM⟩ : ∃ M, M = F.take k := ⟨_, rfl⟩
      rw [← hM] at HG HX
      have hMl : M.length ≤ 64 := by rw [hM, List.length_take]; omega
      have hMk : M.length = k := by rw [hM, List.length_take]; omega
      have HMk := Lib.hid hMk
      clear hM hMk
      obtain ⟨A, c, hcur, hrow⟩ := HG.out.cur x.n.a.ev.data.toList
      have hgl : (grp M x.n.a.ev.data.toList).length ≤ 64 := Nat.le_trans (List.length_filter_le _ _) hMl
      have HC := Lib.hid hcur
      have HRO2 := Lib.hid hrow
      have hlk : ∀ W, Below wr.heap.size wr W → (Instr.lookup 138 (.map (some w1.heap.size)) (.string x.n.a.ev) false).run Tryz.prog W = .ok (.slice A (grp M x.n.a.ev.data.toList).length c) W := by
        intro W hb
        have hm := (HG.out.below hb).map.look hev
        rw [hcur] at hm
        exact hm
      have l1 := hlk (wr.alloc (.cells #[.string x.n.a.ev, .int .i64 x.n.a.ver, .int .i64 x.n.a.tm, .int .i64 x.n.a.n, .int .i64 x.n.a.of, .int .i64 x.n.a.grid, .slice x.A x.n.a.cells.length x.c, .bool x.n.a.wd, .int .i64 x.n.a.before, .slice x.S x.n.sg.length x.sc] 72)).drew (by (repeat (first | exact Below.refl _ _ | assumption | refine below_drewN ?_ _ | refine Below.drew ?_ | refine Below.setCell ?_ (by first | omega | (simp; done) | (simp; omega)) _ | refine Below.alloc ?_ (by first | omega | (simp; done) | (simp; omega)) _)))
      have l2 := hlk ((wr.alloc (.cells #[.string x.n.a.ev, .int .i64 x.n.a.ver, .int .i64 x.n.a.tm, .int .i64 x.n.a.n, .int .i64 x.n.a.of, .int .i64 x.n.a.grid, .slice x.A x.n.a.cells.length x.c, .bool x.n.a.wd, .int .i64 x.n.a.before, .slice x.S x.n.sg.length x.sc] 72)).alloc (.cells #[.string x.n.a.ev, .int .i64 x.n.a.ver, .int .i64 x.n.a.tm, .int .i64 x.n.a.n, .int .i64 x.n.a.of, .int .i64 x.n.a.grid, .slice x.A x.n.a.cells.length x.c, .bool x.n.a.wd, .int .i64 x.n.a.before, .slice x.S x.n.sg.length x.sc] 72)).drew (by (repeat (first | exact Below.refl _ _ | assumption | refine below_drewN ?_ _ | refine Below.drew ?_ | refine Below.setCell ?_ (by first | omega | (simp; done) | (simp; omega)) _ | refine Below.alloc ?_ (by first | omega | (simp; done) | (simp; omega)) _)))
      clear hcur hrow hlk
      go_wp2_with fail
      go_region_law (refine step_append_lies _ rfl (.tmp 35) (.tmp 37) 78 rfl w3.heap.size 72 i0 (.agg #[.string ⟨#[]⟩, .int .i64 0, .int .i64 0, .int .i64 0, .int .i64 0, .int .i64 0, .slice none 0 0, .bool false, .int .i64 0, .slice none 0 0]) 10 120 Tryz.underlying78 hi hz0 hz1 hz2 rfl (by decide) (.slice A (grp M x.n.a.ev.data.toList).length c) (grp M x.n.a.ev.data.toList).length (itCells (grp M x.n.a.ev.data.toList)) (by rfl) (own_below HRO2.out (Nat.le_refl _) (by (repeat (first | exact Below.refl _ _ | assumption | refine below_drewN ?_ _ | refine Below.drew ?_ | refine Below.setCell ?_ (by first | omega | (simp; done) | (simp; omega)) _ | refine Below.alloc ?_ (by first | omega | (simp; done) | (simp; omega)) _)))) _ 1 1 x.lst (by rfl) rfl (World.news_of_block (B := wr.heap.size + 1) (heap_new2 _ _ _)) (ntL_one _ _ _ _ _ _) (by omega) (by unfold maxLen; omega) (by omega) (by simp; omega) (wr.heap.size + 2) (by simp) ?_; intro g cap w5 hown5 hg5 hat5 hlt5; obtain ⟨w6, hrun, hm6, hg6⟩ := (HG.out.grow HRO2.out (by (repeat (first | exact Below.refl _ _ | assumption | refine below_drewN ?_ _ | refine Below.drew ?_ | refine Below.setCell ?_ (by first | omega | (simp; done) | (simp; omega)) _ | refine Below.alloc ?_ (by first | omega | (simp; done) | (simp; omega)) _))) hg5).put (by unfold maxLen; omega) hev (.slice (some ⟨g, 0, none⟩) ((grp M x.n.a.ev.data.toList).length + 1) cap); have v0 : w5.cell? ⟨wr.heap.size, 0, none⟩ = some (.string x.n.a.ev) := (hg5.cell_far ⟨wr.heap.size, 0, none⟩ (by simp; omega) (fun e => absurd (own_lt HRO2.out e.symm).2 (Nat.lt_irrefl _))).trans (by simp [go_sem]))
      all_goals
        go_wp2_with fail
        go_roundw
        case rel => exact ⟨k + 1, _, by omega, by go_num, by rw [HX.out]; exact HG.out.step (by (repeat (first | exact Below.refl _ _ | assumption | refine below_drewN ?_ _ | refine Below.drew ?_ | refine Below.setCell ?_ (by first | omega | (simp; done) | (simp; omega)) _ | refine Below.alloc ?_ (by first | omega | (simp; done) | (simp; omega)) _))) HC.out hown5 hg5 (hat5.elim .inl (fun h => .inr (h.trans (by simp)))) hm6 hg6, ((HK.out.then_below (show Below wr.heap.size wr _ from by (repeat (first | exact Below.refl _ _ | assumption | refine below_drewN ?_ _ | refine Below.drew ?_ | refine Below.setCell ?_ (by first | omega | (simp; done) | (simp; omega)) _ | refine Below.alloc ?_ (by first | omega | (simp; done) | (simp; omega)) _)))).grown hg5 (fun i hi => .inr (own_lt HRO2.out hi).1)).grown hg6 (fun i hi => .inl (by cases hi; rfl))⟩
        case measure => simp [intOf]; omega
    · obtain rfl : k = F.length := by omega
      have HG2 := HG.out
      rw [List.take_length] at HG2
      have HH := Lib.hid HG2
      clear HG2
      go_wp2_with fail
      go_ret2
      refine ⟨fun _ => ⟨_, _, _, rfl, by rw [HF.out]; exact HH.out, by omega⟩, fun h => absurd rfl h, ?_⟩
      exact Hw1.out.trans ((H3.out.mono Hw1.out.size).trans (HK.out.below (by omega) (fun i hi => by omega)))
end Go.Proofs.YtmpbhngjkbidcaaGreatDoor

/-
  Plain: forks: which versions of an event have two alerts, and who signed two.
-/
namespace Go.Proofs.YtmpbhngjkbidcaaGreatDoor
open Go.RowKit Al

/-- Is something so of number i and one of the first j? -/
def pairIn (p : It → It → Bool) (L : List It) (i j : Nat) : Bool := (List.range j).any fun k => match L[i]?, L[k]? with
  | some x, some y => p x y
  | _, _ => false
/-- Is something so of two of the first i? -/
def pairAny (p : It → It → Bool) (L : List It) : Nat → Bool
  | 0 => false
  | i + 1 => pairAny p L i || pairIn p L i i
theorem pairIn_next {p : It → It → Bool} {L : List It} {i j : Nat} (hi : i < L.length) (hj : j < L.length) : pairIn p L i (j + 1) = (pairIn p L i j || p L[i] L[j]) := by
  unfold pairIn
  rw [List.range_succ, List.any_append]
  simp [List.getElem?_eq_getElem hi, List.getElem?_eq_getElem hj]
theorem pairIn_iff {p : It → It → Bool} {L : List It} {i j : Nat} (hi : i < L.length) (hj : j ≤ L.length) : pairIn p L i j = true ↔ ∃ k, ∃ h : k < L.length, k < j ∧ p L[i] L[k] = true := by
  unfold pairIn
  rw [List.any_eq_true]
  constructor
  · rintro ⟨k, hk, h⟩
    have hk2 : k < j := List.mem_range.1 hk
    have hk3 : k < L.length := by omega
    rw [List.getElem?_eq_getElem hi, List.getElem?_eq_getElem hk3] at h
    exact ⟨k, hk3, hk2, h⟩
  · rintro ⟨k, hk3, hk2, h⟩
    refine ⟨k, List.mem_range.2 hk2, ?_⟩
    rw [List.getElem?_eq_getElem hi, List.getElem?_eq_getElem hk3]
    exact h
theorem pairAny_iff {p : It → It → Bool} {L : List It} : ∀ {i : Nat}, i ≤ L.length → (pairAny p L i = true ↔ ∃ a, ∃ ha : a < L.length, ∃ k, ∃ hk : k < L.length, a < i ∧ k < a ∧ p L[a] L[k] = true)
  | 0, _ => by
    constructor
    · intro h; cases h
    · rintro ⟨a, _, _, _, h, _⟩; omega
  | i + 1, hi => by
    have hi2 : i < L.length := by omega
    unfold pairAny
    rw [Bool.or_eq_true, pairAny_iff (by omega), pairIn_iff hi2 (by omega)]
    constructor
    · rintro (⟨a, ha, k, hk, h1, h2, h3⟩ | ⟨k, hk, h2, h3⟩)
      · exact ⟨a, ha, k, hk, by omega, h2, h3⟩
      · exact ⟨i, hi2, k, hk, by omega, h2, h3⟩
    · rintro ⟨a, ha, k, hk, h1, h2, h3⟩
      by_cases e : a = i
      · subst e
        exact .inr ⟨k, hk, h2, h3⟩
      · exact .inl ⟨a, ha, k, hk, by omega, h2, h3⟩
theorem pairAny_mem {p : It → It → Bool} {L : List It} (hs : ∀ x y, p x y = p y x) (hr : ∀ x, p x x = false) : pairAny p L L.length = true ↔ ∃ x ∈ L, ∃ y ∈ L, p x y = true := by
  rw [pairAny_iff (Nat.le_refl _)]
  constructor
  · rintro ⟨a, ha, k, hk, _, _, h⟩
    exact ⟨_, List.getElem_mem ha, _, List.getElem_mem hk, h⟩
  · rintro ⟨x, hx, y, hy, h⟩
    obtain ⟨a, ha, rfl⟩ := List.getElem_of_mem hx
    obtain ⟨k, hk, rfl⟩ := List.getElem_of_mem hy
    rcases Nat.lt_trichotomy a k with e | e | e
    · exact ⟨k, hk, a, ha, hk, e, by rw [hs]; exact h⟩
    · subst e
      rw [hr] at h
      cases h
    · exact ⟨a, ha, k, hk, ha, e, h⟩
theorem data_inj {m n : ByteArray} (h : m.data.toList = n.data.toList) : m = n := by
  cases m
  cases n
  congr
  exact Array.toList_inj.1 h
theorem bytes_inj {m n : ByteArray} (h : m.toList = n.toList) : m = n := data_inj (by rw [← Lib.toList_data, ← Lib.toList_data, h])
theorem sameB_iff {a b : Alr} : sameB a b = true ↔ a = b := by
  constructor
  · intro h
    simp only [sameB, Bool.and_eq_true, beq_iff_eq] at h
    obtain ⟨⟨⟨⟨⟨⟨⟨h1, h2⟩, h3⟩, h4, h5⟩, h6⟩, h7⟩, h8⟩, h9⟩ := h
    cases a
    cases b
    simp only [Alr.mk.injEq]
    exact ⟨bytes_inj h1, h2, h3, h4, h5, h6, h7, h8, h9⟩
  · rintro rfl
    exact sameB_refl a
theorem sameB_comm (a b : Alr) : sameB a b = sameB b a := by
  rw [Bool.eq_iff_iff, sameB_iff, sameB_iff]
  exact eq_comm
/-- Two notices of a version with alerts that are not the same; that someone signed, both. -/
def splitV (v : Int) (x y : It) : Bool := x.n.a.ver == v && y.n.a.ver == v && !sameB x.n.a y.n.a
def hasS (s : Int) (x : It) : Bool := x.n.sg.any fun z => z.1 == s
def twoV (v s : Int) (x y : It) : Bool := splitV v x y && (hasS s x && hasS s y)
theorem splitV_comm (v : Int) (x y : It) : splitV v x y = splitV v y x := by
  unfold splitV
  rw [sameB_comm x.n.a y.n.a, Bool.and_comm (x.n.a.ver == v)]
theorem twoV_comm (v s : Int) (x y : It) : twoV v s x y = twoV v s y x := by
  unfold twoV
  rw [splitV_comm, Bool.and_comm (hasS s x)]
theorem splitV_self (v : Int) (x : It) : splitV v x x = false := by simp [splitV, sameB_refl]
theorem twoV_self (v s : Int) (x : It) : twoV v s x x = false := by simp [twoV, splitV_self]
theorem hasS_iff {s : Int} {x : It} : hasS s x = true ↔ s ∈ x.who := by
  unfold hasS It.who
  rw [List.any_eq_true, List.mem_map]
  simp
theorem splitV_iff {v : Int} {x y : It} (hx : okA x.n.a = true) (hy : okA y.n.a = true) : splitV v x y = true ↔ x.n.a.ver = v ∧ y.n.a.ver = v ∧ x.tx ≠ y.tx := by
  unfold splitV
  simp only [Bool.and_eq_true, beq_iff_eq, Bool.not_eq_true']
  rw [and_assoc]
  refine and_congr_right fun _ => and_congr_right fun _ => ?_
  rw [← Bool.not_eq_true, not_congr sameB_iff]
  exact not_congr ⟨fun e => by unfold It.tx; rw [e], fun e => text_inj hx hy e⟩
theorem two_len {α : Type} : ∀ {l : List α}, l.Nodup → (2 ≤ l.length ↔ ∃ a ∈ l, ∃ b ∈ l, a ≠ b)
  | [], _ => by simp
  | [a], _ => by simp
  | a :: b :: l, h => by
    refine ⟨fun _ => ⟨a, by simp, b, by simp, ?_⟩, fun _ => by simp⟩
    intro e
    have := (List.nodup_cons.1 h).1
    rw [e] at this
    exact this (by simp)
/-- There is a fork of a version just where it has two texts. -/
theorem fork_texts {L : List It} (hok : ∀ x ∈ L, okA x.n.a = true) (v : Int) : 2 ≤ (textsV L v).length ↔ pairAny (splitV v) L L.length = true := by
  rw [two_len (textsV_nodup L v), pairAny_mem (splitV_comm v) (splitV_self v)]
  constructor
  · rintro ⟨s, hs, t, ht, hne⟩
    obtain ⟨x, hx, h1, rfl⟩ := mem_textsV.1 hs
    obtain ⟨y, hy, h2, rfl⟩ := mem_textsV.1 ht
    exact ⟨x, hx, y, hy, (splitV_iff (hok x hx) (hok y hy)).2 ⟨h1, h2, hne⟩⟩
  · rintro ⟨x, hx, y, hy, h⟩
    obtain ⟨h1, h2, h3⟩ := (splitV_iff (hok x hx) (hok y hy)).1 h
    exact ⟨_, mem_textsV.2 ⟨x, hx, h1, rfl⟩, _, mem_textsV.2 ⟨y, hy, h2, rfl⟩, h3⟩
/-- Someone signed two ways just where two texts of the version are signed by him. -/
theorem two_texts {L : List It} (hok : ∀ x ∈ L, okA x.n.a = true) (v s : Int) : 2 ≤ ((textsV L v).filter fun t => decide (s ∈ sgs L v t)).length ↔ pairAny (twoV v s) L L.length = true := by
  rw [two_len ((textsV_nodup L v).filter _), pairAny_mem (twoV_comm v s) (twoV_self v s)]
  constructor
  · rintro ⟨t, ht, u, hu, hne⟩
    obtain ⟨_, h1⟩ := List.mem_filter.1 ht
    obtain ⟨_, h2⟩ := List.mem_filter.1 hu
    obtain ⟨x, hx, a1, rfl, a3⟩ := mem_sgs.1 (of_decide_eq_true h1)
    obtain ⟨y, hy, b1, rfl, b3⟩ := mem_sgs.1 (of_decide_eq_true h2)
    refine ⟨x, hx, y, hy, ?_⟩
    unfold twoV
    rw [(splitV_iff (hok x hx) (hok y hy)).2 ⟨a1, b1, hne⟩, hasS_iff.2 a3, hasS_iff.2 b3]
    rfl
  · rintro ⟨x, hx, y, hy, h⟩
    unfold twoV at h
    simp only [Bool.and_eq_true] at h
    obtain ⟨h0, h1, h2⟩ := h
    obtain ⟨a1, b1, hne⟩ := (splitV_iff (hok x hx) (hok y hy)).1 h0
    exact ⟨x.tx, List.mem_filter.2 ⟨mem_textsV.2 ⟨x, hx, a1, rfl⟩, decide_eq_true (mem_sgs.2 ⟨x, hx, a1, rfl, hasS_iff.1 h1⟩)⟩, y.tx, List.mem_filter.2 ⟨mem_textsV.2 ⟨y, hy, b1, rfl⟩, decide_eq_true (mem_sgs.2 ⟨y, hy, b1, rfl, hasS_iff.1 h2⟩)⟩, hne⟩
/-- An event is disputed just where some version of it has two texts. -/
theorem disp_texts {L : List It} (hok : ∀ x ∈ L, okA x.n.a = true) : disp L L.length = true ↔ ∃ v, 2 ≤ (textsV L v).length := by
  have hd : ∀ i, i ≤ L.length → (disp L i = true ↔ ∃ a, ∃ ha : a < L.length, ∃ k, ∃ hk : k < L.length, a < i ∧ k < a ∧ clash L[k].n.a L[a].n.a = true) := by
    intro i
    induction i with
    | zero =>
      intro _
      constructor
      · intro h; cases h
      · rintro ⟨a, _, _, _, h, _⟩; omega
    | succ i ih =>
      intro hi
      unfold disp
      rw [Bool.or_eq_true, ih (by omega)]
      constructor
      · rintro (⟨a, ha, k, hk, h1, h2, h3⟩ | h)
        · exact ⟨a, ha, k, hk, by omega, h2, h3⟩
        · unfold dispIn at h
          obtain ⟨k, hk, h⟩ := List.any_eq_true.1 h
          have hk2 : k < i := List.mem_range.1 hk
          rw [clashAt_eq (by omega) (by omega)] at h
          exact ⟨i, by omega, k, by omega, by omega, hk2, h⟩
      · rintro ⟨a, ha, k, hk, h1, h2, h3⟩
        by_cases e : a = i
        · subst e
          refine .inr ?_
          unfold dispIn
          exact List.any_eq_true.2 ⟨k, List.mem_range.2 h2, by rw [clashAt_eq hk ha]; exact h3⟩
        · exact .inl ⟨a, ha, k, hk, by omega, h2, h3⟩
  rw [hd _ (Nat.le_refl _)]
  constructor
  · rintro ⟨a, ha, k, hk, h1, h2, h3⟩
    refine ⟨L[a].n.a.ver, (fork_texts hok _).2 ((pairAny_mem (splitV_comm _) (splitV_self _)).2 ⟨L[k], List.getElem_mem hk, L[a], List.getElem_mem ha, ?_⟩)⟩
    unfold clash at h3
    unfold splitV
    simp only [Bool.and_eq_true, beq_iff_eq] at h3 ⊢
    exact ⟨⟨h3.1, trivial⟩, h3.2⟩
  · rintro ⟨v, hv⟩
    obtain ⟨a, ha, k, hk, h1, h2, h3⟩ := (pairAny_iff (Nat.le_refl _)).1 ((fork_texts hok v).1 hv)
    refine ⟨a, ha, k, hk, h1, h2, ?_⟩
    rw [splitV_comm] at h3
    unfold splitV at h3
    unfold clash
    simp only [Bool.and_eq_true, beq_iff_eq] at h3 ⊢
    exact ⟨h3.1.1.trans h3.1.2.symm, h3.2⟩
end Go.Proofs.YtmpbhngjkbidcaaGreatDoor
