/-
  The walk of events, of the program: the valid notices, in groups by event.
-/
import Derived.Test.YtohfofecbdfkgaaGreatDoorU18
import Derived.Test.YtohfofecbdfkgaaGreatDoorU21
import Derived.Deep.RegionLaw
import Derived.Deep.AppendLies
import Derived.Test.YtohfofecbdfkgaaGreatDoorU02
import Derived.Test.YtohfofecbdfkgaaGreatDoorU17
namespace Go.Proofs.YtohfofecbdfkgaaGreatDoor
open Go.RowKit Al
attribute [local go_sem ↓] Go.wp_at_zero Go.wp_at_succ

/-- The valid notices, in groups, in memory of the call's own, or an error. -/
def EvT (ks : List (Int × Int)) (q : Int) (L : List It) (k : Int) (w : World) (e : Ending) (w' : World) : Prop :=
  (k = 0 → ∃ (mb B : Nat) (f : List UInt8 → Option Value), e = .returned (.tuple #[.map (some mb), .int .i64 0]) ∧ Grp w' B mb (validN ks q L) f ∧ w.heap.size ≤ mb) ∧ (¬ k = 0 → e = .returned (.tuple #[.map none, .int .i64 k])) ∧ Below w.heap.size w w'
theorem Grp.start {w : World} {mb B : Nat} (h : MapNs w mb 0 (fun _ => none)) (hb : mb < B) : Grp w B mb [] (fun _ => none) :=
  ⟨h, fun _ _ h => (nomatch h), fun _ _ => rfl, fun _ _ h => (nomatch h), fun _ _ _ _ h => (nomatch h), hb⟩
theorem filtEv_is (ks : List (Int × Int)) (q : Int) (K : Option Addr) (kc g : Nat) (L : List It) (N : Option Addr) (nc : Nat) (F : List It) (w : World) (hF : validN ks q L = F) (hL : Sl w w.heap.size 10 N L.length nc (itCells L)) (hI : ∀ x ∈ L, NIn w x.n x.A x.c x.S x.sc) (hlen : L.length ≤ 1048576) (hr : RolA w g ks q K kc) :
    Calls Tryz.prog 44 #[.slice N L.length nc, .func (.func 90) #[] #[.pointer (some ⟨g, 0, none⟩)]] w (OwnIts F w) := hF ▸ filtEv_ ks q K kc g L N nc w hL hI hlen hr
theorem validN_mem {ks : List (Int × Int)} {q : Int} {L : List It} {x : It} (h : x ∈ validN ks q L) : x ∈ L ∧ okA x.n.a = true := by
  obtain ⟨h1, h2⟩ := List.mem_filter.1 h
  refine ⟨h1, ?_⟩
  cases hk : okA x.n.a with
  | true => rfl
  | false => rw [noticeE_bad hk] at h2; cases h2

set_option maxRecDepth 100000 in
set_option maxHeartbeats 2000000 in
theorem events_e (ks : List (Int × Int)) (q : Int) (K : Option Addr) (kc : Nat) (L : List It) (N : Option Addr) (nc : Nat) (v : Int) (w : World) (hv : manyE ks q L.length = v) (hv0 : ¬ v = 0) (hr : Rin w ks K kc) (hlen : L.length ≤ 1152921504606846976) :
    Calls Tryz.prog 41 #[rollV ks K kc q, .slice N L.length nc] w (EvT ks q L v w) := by
  have HR := Lib.hid hr
  clear hr
  unfold manyE at hv
  cases ho : rollOk ks q with
  | false =>
    rw [ho] at hv
    have hv1 : v = 104 := hv.symm
    subst hv1
    have HO : Hid (errA (rollOk ks q) 104 = 104) := by rw [ho]; rfl
    clear hv ho
    go_enter Tryz.func41, Tryz.ntmps41
    go_wp2_with fail
    refine (CheckRoll_is ks q K kc _ 104 HO.out (HR.out.below (by (repeat (first | exact Below.refl _ _ | assumption | refine below_drewN ?_ _ | refine Below.drew ?_ | refine Below.setCell ?_ (by first | omega | (simp; done) | (simp; omega)) _ | refine Below.alloc ?_ (by first | omega | (simp; done) | (simp; omega)) _))))).mono ?_
    rintro e w1 ⟨rfl, hb⟩
    obtain ⟨hcw1, hfw1⟩ := bcell hb
    have Hw1 := Lib.hid ((show Below w.heap.size w _ from (by repeat (first | exact Below.refl _ _ | assumption | refine below_drewN ?_ _ | refine Below.drew ?_ | refine Below.setCell ?_ (by first | omega | (simp; done) | (simp; omega)) _ | refine Below.alloc ?_ (by first | omega | (simp; done) | (simp; omega)) _))).trans (hb.mono (by first | omega | (simp; done) | (simp; omega))))
    have hzw1 := hb.size
    try simp at hzw1
    clear hb
    go_wp2_with fail
    go_ret2
    exact ⟨fun h => absurd h (by decide), fun _ => rfl, Hw1.out⟩
  | true =>
    rw [ho] at hv
    have HO : Hid (errA (rollOk ks q) 104 = 0) := by rw [ho]; rfl
    have hlt : 64 < L.length := by
      by_cases h : 64 < L.length
      · exact h
      · exfalso
        simp [h] at hv
        exact hv0 hv.symm
    have hv1 : v = 3 := by simp [hlt] at hv; exact hv.symm
    subst hv1
    clear hv ho
    go_enter Tryz.func41, Tryz.ntmps41
    go_wp2_with fail
    refine (CheckRoll_is ks q K kc _ 0 HO.out (HR.out.below (by (repeat (first | exact Below.refl _ _ | assumption | refine below_drewN ?_ _ | refine Below.drew ?_ | refine Below.setCell ?_ (by first | omega | (simp; done) | (simp; omega)) _ | refine Below.alloc ?_ (by first | omega | (simp; done) | (simp; omega)) _))))).mono ?_
    rintro e w1 ⟨rfl, hb⟩
    obtain ⟨hcw1, hfw1⟩ := bcell hb
    have Hw1 := Lib.hid ((show Below w.heap.size w _ from (by repeat (first | exact Below.refl _ _ | assumption | refine below_drewN ?_ _ | refine Below.drew ?_ | refine Below.setCell ?_ (by first | omega | (simp; done) | (simp; omega)) _ | refine Below.alloc ?_ (by first | omega | (simp; done) | (simp; omega)) _))).trans (hb.mono (by first | omega | (simp; done) | (simp; omega))))
    have hzw1 := hb.size
    try simp at hzw1
    clear hb
    go_wp2_with fail
    go_ret2
    exact ⟨fun h => absurd h (by decide), fun _ => rfl, Hw1.out⟩

theorem Grp.grow {w w4 w5 : World} {B mb : Nat} {L : List It} {f : List UInt8 → Option Value} {A : Option Addr} {n c : Nat} {xs : List Value} (h : Grp w B mb L f) (hr : w.ownsRow B 54 10 (.slice A n c) n xs) (h4 : Below w.heap.size w w4) (hg : w4.grownBy w5 (Value.slice A n c).ownBlock) : MapNs w5 mb L.length f := by
  have K5 : Kp (fun i => (Value.slice A n c).ownBlock = some i) w w5 := (Kp.of_below h4).grown hg (fun k hk => .inl hk)
  refine h.map.keep K5 (fun e => ?_)
  have := (own_lt hr e).1
  have := h.mbB
  omega
theorem heap_new2 (w : World) (o o2 : Obj) : ((w.alloc o).alloc o2).drew.heap[w.heap.size + 1]? = some o2 := by
  have h := heap_alloc_new (w.alloc o) o2
  rwa [show (w.alloc o).heap.size = w.heap.size + 1 by simp] at h
def EpRel (w3 : World) (mb : Nat) (F : List It) (i : Value) (wr : World) : Prop := ∃ (k : Nat) (f : List UInt8 → Option Value), k ≤ F.length ∧ i = .int .i64 k ∧ Grp wr w3.heap.size mb (F.take k) f ∧ Kp (fun i => i = mb) w3 wr
set_option maxRecDepth 100000 in
set_option maxHeartbeats 2000000 in
theorem events_t (ks : List (Int × Int)) (q : Int) (K : Option Addr) (kc : Nat) (L : List It) (N : Option Addr) (nc : Nat) (w : World) (hv : manyE ks q L.length = 0) (hr : Rin w ks K kc) (ht : Rdy w) (hL : Sl w w.heap.size 10 N L.length nc (itCells L)) (hI : ∀ x ∈ L, NIn w x.n x.A x.c x.S x.sc) (hlen : L.length ≤ 1048576) :
    Calls Tryz.prog 41 #[rollV ks K kc q, .slice N L.length nc] w (EvT ks q L 0 w) := by
  have HR := Lib.hid hr
  have HT := Lib.hid ht
  have HL := Lib.hid hL
  have HI := Lib.hid hI
  obtain ⟨ho, h64⟩ := manyE_zero hv
  have HRO := Lib.hid ho
  have HO : Hid (errA (rollOk ks q) 104 = 0) := by rw [ho]; rfl
  obtain ⟨F, hF⟩ : ∃ F, validN ks q L = F := ⟨_, rfl⟩
  have HF := Lib.hid hF
  have hFl : F.length ≤ 64 := by rw [← hF]; exact Nat.le_trans (List.length_filter_le _ _) h64
  have HFM : Hid (∀ x ∈ F, x ∈ L ∧ okA x.n.a = true) := fun x hx => validN_mem (by rw [hF]; exact hx)
  obtain ⟨i0, hi, hz0, hz1, hz2⟩ := info_parts infoNtc
  clear hr ht hL hI ho hv hF
  go_enter Tryz.func41, Tryz.ntmps41
  go_wp2_with fail
  refine (CheckRoll_is ks q K kc _ 0 HO.out (HR.out.below (by (repeat (first | exact Below.refl _ _ | assumption | refine below_drewN ?_ _ | refine Below.drew ?_ | refine Below.setCell ?_ (by first | omega | (simp; done) | (simp; omega)) _ | refine Below.alloc ?_ (by first | omega | (simp; done) | (simp; omega)) _))))).mono ?_
  rintro e w1 ⟨rfl, hb⟩
  obtain ⟨hcw1, hfw1⟩ := bcell hb
  have Hw1 := Lib.hid ((show Below w.heap.size w _ from (by repeat (first | exact Below.refl _ _ | assumption | refine below_drewN ?_ _ | refine Below.drew ?_ | refine Below.setCell ?_ (by first | omega | (simp; done) | (simp; omega)) _ | refine Below.alloc ?_ (by first | omega | (simp; done) | (simp; omega)) _))).trans (hb.mono (by first | omega | (simp; done) | (simp; omega))))
  have hzw1 := hb.size
  try simp at hzw1
  clear hb
  have hw1 : w.heap.size < w1.heap.size := by first | omega | (simp at hzw1; omega)
  have c0 : w1.cell? ⟨w.heap.size, 0, none⟩ = some (.slice K ks.length kc) := by rw [hcw1 _ _ (by simp)]; simp [go_sem]
  have c1 : w1.cell? ⟨w.heap.size, 1, none⟩ = some (.int .i64 q) := by rw [hcw1 _ _ (by simp)]; simp [go_sem]
  have HRA : Hid (RolA w1 w.heap.size ks q K kc) := ⟨HR.out.below Hw1.out, HRO.out, c0, c1, hw1, HT.out.below Hw1.out⟩
  have hmm := @run_makeMap Tryz.prog
  go_wp2_with (go_at_call 44; refine (filtEv_is ks q K kc w.heap.size L N nc F _ HF.out ((HL.out.below (Below.trans Hw1.out (by (repeat (first | exact Below.refl _ _ | assumption | refine below_drewN ?_ _ | refine Below.drew ?_ | refine Below.setCell ?_ (by first | omega | (simp; done) | (simp; omega)) _ | refine Below.alloc ?_ (by first | omega | (simp; done) | (simp; omega)) _))))).more (by first | omega | (simp; done) | (simp; omega))) (fun x hx => (HI.out x hx).below (Below.trans Hw1.out (by (repeat (first | exact Below.refl _ _ | assumption | refine below_drewN ?_ _ | refine Below.drew ?_ | refine Below.setCell ?_ (by first | omega | (simp; done) | (simp; omega)) _ | refine Below.alloc ?_ (by first | omega | (simp; done) | (simp; omega)) _))))) hlen (HRA.out.below (by (repeat (first | exact Below.refl _ _ | assumption | refine below_drewN ?_ _ | refine Below.drew ?_ | refine Below.setCell ?_ (by first | omega | (simp; done) | (simp; omega)) _ | refine Below.alloc ?_ (by first | omega | (simp; done) | (simp; omega)) _))))).mono ?_; rintro e w3 ⟨P, fc, rfl, hown3, hb3⟩; have H3 := Lib.hid ((show Below w1.heap.size w1 _ from (by (repeat (first | exact Below.refl _ _ | assumption | refine below_drewN ?_ _ | refine Below.drew ?_ | refine Below.setCell ?_ (by first | omega | (simp; done) | (simp; omega)) _ | refine Below.alloc ?_ (by first | omega | (simp; done) | (simp; omega)) _)))).trans (hb3.mono (by first | omega | (simp; done) | (simp; omega)))); have hz3 := hb3.size; (try simp at hz3); have HM3 := Lib.hid ((MapNs.made w1).keep (F := fun _ => False) (Kp.of_below hb3) (fun f => f)); have HP : Hid (SlR w3 (fun i => i ≠ w1.heap.size) 10 P F.length fc (itCells F)) := SlR.of_own hown3 (fun i h1 _ => by simp at h1; omega); clear hb3 hown3 hmm)
  go_loopw [23] (fun i wr => EpRel w3 w1.heap.size F i wr) (fun i _ => F.length - (intOf i).toNat)
  case atStart => exact ⟨0, _, Nat.zero_le _, rfl, Grp.start HM3.out (by omega), Kp.refl _ _⟩
  case round =>
    obtain ⟨k, f, hk, rfl, hG, hKp⟩ := hrel
    have hsz := hKp.size
    have HG := Lib.hid hG
    have HK := Lib.hid hKp
    clear hG hKp
    by_cases hlt : k < F.length
    · have HPR := Lib.hid (HP.out.keep HK.out (fun i hi f => hi f)).sl
      obtain ⟨b, off, rfl, hb, y0, y1, y2, y3, y4, y5, y6, y7, y8, y9⟩ := HPR.out.it_at hlt
      have j0 : (0 : Int) ≤ (k : Int) := by omega
      have j1 : (k : Int) < (F.length : Int) := by omega
      have hs := okA_short (HFM.out F[k] (List.getElem_mem hlt)).2
      have hev := okA_ev (HFM.out F[k] (List.getElem_mem hlt)).2
      have HX : Hid (F.take (k + 1) = F.take k ++ [F[k]]) := List.take_succ_eq_append_getElem hlt
      obtain ⟨x, hx⟩ : ∃ x, x = F[k] := ⟨_, rfl⟩
      rw [← hx] at y0 y1 y2 y3 y4 y5 y6 y7 y8 y9 hs HX hev
      clear hx
      obtain ⟨M, hM⟩ : ∃ M, M = F.take k := ⟨_, rfl⟩
      rw [← hM] at HG HX
      have hMl : M.length ≤ 64 := by rw [hM, List.length_take]; omega
      have hMk : M.length = k := by rw [hM, List.length_take]; omega
      have HMk := Lib.hid hMk
      clear hM hMk
      obtain ⟨A, c, hcur, hrow⟩ := HG.out.cur x.n.a.ev.data.toList
      have hgl : (grp M x.n.a.ev.data.toList).length ≤ 64 := Nat.le_trans (List.length_filter_le _ _) hMl
      have HC := Lib.hid hcur
      have HRO2 := Lib.hid hrow
      have hlk : ∀ W, Below wr.heap.size wr W → (Instr.lookup 80 (.map (some w1.heap.size)) (.string x.n.a.ev) false).run Tryz.prog W = .ok (.slice A (grp M x.n.a.ev.data.toList).length c) W := by
        intro W hb
        have hm := (HG.out.below hb).map.look hev
        rw [hcur] at hm
        exact hm
      have l1 := hlk (wr.alloc (.cells #[.string x.n.a.ev, .int .i64 x.n.a.ver, .int .i64 x.n.a.tm, .int .i64 x.n.a.n, .int .i64 x.n.a.of, .int .i64 x.n.a.grid, .slice x.A x.n.a.cells.length x.c, .bool x.n.a.wd, .int .i64 x.n.a.before, .slice x.S x.n.sg.length x.sc] 54)).drew (by (repeat (first | exact Below.refl _ _ | assumption | refine below_drewN ?_ _ | refine Below.drew ?_ | refine Below.setCell ?_ (by first | omega | (simp; done) | (simp; omega)) _ | refine Below.alloc ?_ (by first | omega | (simp; done) | (simp; omega)) _)))
      have l2 := hlk ((wr.alloc (.cells #[.string x.n.a.ev, .int .i64 x.n.a.ver, .int .i64 x.n.a.tm, .int .i64 x.n.a.n, .int .i64 x.n.a.of, .int .i64 x.n.a.grid, .slice x.A x.n.a.cells.length x.c, .bool x.n.a.wd, .int .i64 x.n.a.before, .slice x.S x.n.sg.length x.sc] 54)).alloc (.cells #[.string x.n.a.ev, .int .i64 x.n.a.ver, .int .i64 x.n.a.tm, .int .i64 x.n.a.n, .int .i64 x.n.a.of, .int .i64 x.n.a.grid, .slice x.A x.n.a.cells.length x.c, .bool x.n.a.wd, .int .i64 x.n.a.before, .slice x.S x.n.sg.length x.sc] 54)).drew (by (repeat (first | exact Below.refl _ _ | assumption | refine below_drewN ?_ _ | refine Below.drew ?_ | refine Below.setCell ?_ (by first | omega | (simp; done) | (simp; omega)) _ | refine Below.alloc ?_ (by first | omega | (simp; done) | (simp; omega)) _)))
      clear hcur hrow hlk
      go_wp2_with fail
      go_region_law (refine step_append_lies _ rfl (.tmp 35) (.tmp 37) 25 rfl w3.heap.size 54 i0 (.agg #[.string ⟨#[]⟩, .int .i64 0, .int .i64 0, .int .i64 0, .int .i64 0, .int .i64 0, .slice none 0 0, .bool false, .int .i64 0, .slice none 0 0]) 10 120 Tryz.underlying25 hi hz0 hz1 hz2 rfl (by decide) (.slice A (grp M x.n.a.ev.data.toList).length c) (grp M x.n.a.ev.data.toList).length (itCells (grp M x.n.a.ev.data.toList)) (by rfl) (own_below HRO2.out (Nat.le_refl _) (by (repeat (first | exact Below.refl _ _ | assumption | refine below_drewN ?_ _ | refine Below.drew ?_ | refine Below.setCell ?_ (by first | omega | (simp; done) | (simp; omega)) _ | refine Below.alloc ?_ (by first | omega | (simp; done) | (simp; omega)) _)))) _ 1 1 x.lst (by rfl) rfl (World.news_of_block (B := wr.heap.size + 1) (heap_new2 _ _ _)) (ntL_one _ _ _ _ _ _) (by omega) (by unfold maxLen; omega) (by omega) (by simp; omega) (wr.heap.size + 2) (by simp) ?_; intro g cap w5 hown5 hg5 hat5 hlt5; obtain ⟨w6, hrun, hm6, hg6⟩ := (HG.out.grow HRO2.out (by (repeat (first | exact Below.refl _ _ | assumption | refine below_drewN ?_ _ | refine Below.drew ?_ | refine Below.setCell ?_ (by first | omega | (simp; done) | (simp; omega)) _ | refine Below.alloc ?_ (by first | omega | (simp; done) | (simp; omega)) _))) hg5).put (by unfold maxLen; omega) hev (.slice (some ⟨g, 0, none⟩) ((grp M x.n.a.ev.data.toList).length + 1) cap); have v0 : w5.cell? ⟨wr.heap.size, 0, none⟩ = some (.string x.n.a.ev) := (hg5.cell_far ⟨wr.heap.size, 0, none⟩ (by simp; omega) (fun e => absurd (own_lt HRO2.out e.symm).2 (Nat.lt_irrefl _))).trans (by simp [go_sem]))
      all_goals
        go_wp2_with fail
        go_roundw
        case rel => exact ⟨k + 1, _, by omega, by go_num, by rw [HX.out]; exact HG.out.step (by (repeat (first | exact Below.refl _ _ | assumption | refine below_drewN ?_ _ | refine Below.drew ?_ | refine Below.setCell ?_ (by first | omega | (simp; done) | (simp; omega)) _ | refine Below.alloc ?_ (by first | omega | (simp; done) | (simp; omega)) _))) HC.out hown5 hg5 (hat5.elim .inl (fun h => .inr (h.trans (by simp)))) hm6 hg6, ((HK.out.then_below (show Below wr.heap.size wr _ from by (repeat (first | exact Below.refl _ _ | assumption | refine below_drewN ?_ _ | refine Below.drew ?_ | refine Below.setCell ?_ (by first | omega | (simp; done) | (simp; omega)) _ | refine Below.alloc ?_ (by first | omega | (simp; done) | (simp; omega)) _)))).grown hg5 (fun i hi => .inr (own_lt HRO2.out hi).1)).grown hg6 (fun i hi => .inl (by cases hi; rfl))⟩
        case measure => simp [intOf]; omega
    · obtain rfl : k = F.length := by omega
      have HG2 := HG.out
      rw [List.take_length] at HG2
      have HH := Lib.hid HG2
      clear HG2
      go_wp2_with fail
      go_ret2
      refine ⟨fun _ => ⟨_, _, _, rfl, by rw [HF.out]; exact HH.out, by omega⟩, fun h => absurd rfl h, ?_⟩
      exact Hw1.out.trans ((H3.out.mono Hw1.out.size).trans (HK.out.below (by omega) (fun i hi => by omega)))
end Go.Proofs.YtohfofecbdfkgaaGreatDoor

/-
  Plain: two valid alerts with the same text are the same.
-/
namespace Go.Proofs.YtohfofecbdfkgaaGreatDoor
namespace Al

theorem cut_at {s : UInt8} : ∀ {u u' r r' : List UInt8}, s ∉ u → s ∉ u' → u ++ s :: r = u' ++ s :: r' → u = u' ∧ r = r'
  | [], [], r, r', _, _, h => ⟨rfl, by simpa using h⟩
  | [], y :: v, r, r', _, h2, h => by
    have : s = y := by simpa using (List.cons.inj h).1
    exact absurd (by rw [this]; simp) h2
  | x :: v, [], r, r', h1, _, h => by
    have : x = s := by simpa using (List.cons.inj h).1
    exact absurd (by rw [← this]; simp) h1
  | x :: v, y :: v', r, r', h1, h2, h => by
    obtain ⟨e1, e2⟩ := List.cons.inj h
    obtain ⟨e3, e4⟩ := cut_at (u := v) (u' := v') (fun hm => h1 (List.mem_cons_of_mem _ hm)) (fun hm => h2 (List.mem_cons_of_mem _ hm)) e2
    exact ⟨by rw [e1, e3], e4⟩
/-- Nothing, or what begins with the separator. -/
def Led (s : UInt8) (r : List UInt8) : Prop := r = [] ∨ ∃ t, r = s :: t
theorem cut_led {s : UInt8} : ∀ {u u' r r' : List UInt8}, s ∉ u → s ∉ u' → Led s r → Led s r' → u ++ r = u' ++ r' → u = u' ∧ r = r'
  | [], [], r, r', _, _, _, _, h => ⟨rfl, by simpa using h⟩
  | [], y :: v, r, r', _, h2, h3, _, h => by
    rcases h3 with rfl | ⟨t, rfl⟩
    · cases h
    · have : s = y := by simpa using (List.cons.inj h).1
      exact absurd (by rw [this]; simp) h2
  | x :: v, [], r, r', h1, _, _, h4, h => by
    rcases h4 with rfl | ⟨t, rfl⟩
    · cases h
    · have : x = s := by simpa using (List.cons.inj h).1
      exact absurd (by rw [← this]; simp) h1
  | x :: v, y :: v', r, r', h1, h2, h3, h4, h => by
    obtain ⟨e1, e2⟩ := List.cons.inj h
    obtain ⟨e3, e4⟩ := cut_led (u := v) (u' := v') (fun hm => h1 (List.mem_cons_of_mem _ hm)) (fun hm => h2 (List.mem_cons_of_mem _ hm)) h3 h4 e2
    exact ⟨by rw [e1, e3], e4⟩
/-- What digits say. -/
def valL (l : List UInt8) : Nat := l.foldl (fun n b => n * 10 + (b.toNat - 48)) 0
theorem valL_snoc (l : List UInt8) (b : UInt8) : valL (l ++ [b]) = valL l * 10 + (b.toNat - 48) := by simp [valL]
theorem digit_nat {d : Nat} (h : d < 10) : (UInt8.ofNat (48 + d)).toNat = 48 + d := by
  rw [UInt8.toNat_ofNat']
  omega
theorem dec_val (u : Nat) : valL (Lib.decDigits u) = u ∧ ∀ b ∈ Lib.decDigits u, 48 ≤ b.toNat ∧ b.toNat ≤ 57 := by
  induction u using Nat.strongRecOn with
  | ind u ih =>
    rw [Lib.decDigits]
    by_cases h : u < 10
    · rw [dif_pos h]
      refine ⟨?_, fun b hb => ?_⟩
      · show 0 * 10 + ((UInt8.ofNat (48 + u)).toNat - 48) = u
        rw [digit_nat h]
        omega
      · rw [List.mem_singleton.1 hb, digit_nat h]
        omega
    · rw [dif_neg h]
      obtain ⟨h1, h2⟩ := ih (u / 10) (by omega)
      refine ⟨?_, fun b hb => ?_⟩
      · rw [valL_snoc, h1, digit_nat (Nat.mod_lt _ (by omega))]
        omega
      · rcases List.mem_append.1 hb with hb | hb
        · exact h2 b hb
        · rw [List.mem_singleton.1 hb, digit_nat (Nat.mod_lt _ (by omega))]
          omega
theorem itoa_dec {n : Int} (h : 0 ≤ n) : Lib.itoa n = Lib.decDigits n.toNat := by unfold Lib.itoa; rw [if_neg (by omega)]
theorem itoa_inj {n m : Int} (h : 0 ≤ n) (h' : 0 ≤ m) (e : Lib.itoa n = Lib.itoa m) : n = m := by
  rw [itoa_dec h, itoa_dec h'] at e
  have := congrArg valL e
  rw [(dec_val _).1, (dec_val _).1] at this
  omega
theorem itoa_no {n : Int} (h : 0 ≤ n) {s : UInt8} (hs : s.toNat < 48) : s ∉ Lib.itoa n := by
  rw [itoa_dec h]
  intro hm
  have := ((dec_val _).2 s hm).1
  omega
theorem small_no {b : UInt8} (h : small b = true) : 33 ≤ b.toNat := by have := inB_true.1 h; omega
theorem nameB_no {b : UInt8} (h : nameB b = true) : 33 ≤ b.toNat := by
  unfold nameB at h
  simp only [Bool.or_eq_true] at h
  rcases h with (h | h) | h
  · exact small_no h
  · have := inB_true.1 h; omega
  · have : (b.toNat : Int) = 95 := by simpa using h
    omega
theorem name_no : ∀ {f : Bool} {l : List UInt8}, nameFrom f l = true → ∀ b ∈ l, 33 ≤ b.toNat
  | _, [], _, _, hb => by cases hb
  | f, c :: r, h, b, hb => by
    rw [nameFrom] at h
    simp only [Bool.and_eq_true, Bool.or_eq_true] at h
    rcases List.mem_cons.1 hb with rfl | hb
    · rcases h.1 with h1 | h1
      · exact small_no h1
      · exact nameB_no h1.2
    · exact name_no h.2 b hb
theorem flat_led (l : List Int) : Led 32 (l.flatMap fun n => 32 :: Lib.itoa n) := by
  cases l with
  | nil => exact .inl rfl
  | cons n r => exact .inr ⟨_, rfl⟩
theorem flat_inj : ∀ {l l' : List Int}, Fine l → Fine l' → (l.flatMap fun n => 32 :: Lib.itoa n) = (l'.flatMap fun n => 32 :: Lib.itoa n) → l = l'
  | [], [], _, _, _ => rfl
  | [], _ :: _, _, _, h => by simp at h
  | _ :: _, [], _, _, h => by simp at h
  | n :: r, m :: r', h1, h2, h => by
    rw [List.flatMap_cons, List.flatMap_cons] at h
    obtain ⟨_, h3⟩ := List.cons.inj h
    have hn := h1 n (by simp)
    have hm := h2 m (by simp)
    obtain ⟨e1, e2⟩ := cut_led (itoa_no hn.1 (by decide)) (itoa_no hm.1 (by decide)) (flat_led r) (flat_led r') h3
    rw [itoa_inj hn.1 hm.1 e1, flat_inj (fun z hz => h1 z (by simp [hz])) (fun z hz => h2 z (by simp [hz])) e2]
theorem flat_no {s : UInt8} (hs : s.toNat < 32) : ∀ {l : List Int}, Fine l → s ∉ (l.flatMap fun n => 32 :: Lib.itoa n)
  | [], _ => by simp
  | n :: r, h => by
    rw [List.flatMap_cons]
    intro hm
    rcases List.mem_append.1 hm with hm | hm
    · rcases List.mem_cons.1 hm with rfl | hm
      · exact absurd hs (by decide)
      · exact itoa_no (h n (by simp)).1 (by omega) hm
    · exact flat_no hs (fun z hz => h z (by simp [hz])) hm
theorem where_no {a : Alr} (h : AlGood a) : (10 : UInt8) ∉ whereL a := by
  unfold whereL
  split
  · decide
  · unfold rowL
    intro hm
    rcases List.mem_append.1 hm with hm | hm
    · revert hm; decide
    · exact flat_no (by decide) h.cells hm
theorem where_inj {a b : Alr} (h : AlGood a) (h' : AlGood b) (e : whereL a = whereL b) : a.wd = b.wd ∧ a.cells = b.cells := by
  unfold whereL at e
  cases ha : a.wd with
  | true =>
    cases hb : b.wd with
    | true => exact ⟨rfl, by rw [h.wd ha, h'.wd hb]⟩
    | false => rw [ha, hb] at e; simp [rowL] at e
  | false =>
    cases hb : b.wd with
    | true => rw [ha, hb] at e; simp [rowL] at e
    | false =>
      rw [ha, hb] at e
      simp only [Bool.false_eq_true, if_false] at e
      unfold rowL at e
      exact ⟨rfl, flat_inj h.cells h'.cells (List.append_cancel_left e)⟩
theorem text_inj {a b : Alr} (ha : okA a = true) (hb : okA b = true) (e : textL a = textL b) : a = b := by
  have ga := okA_good ha
  have gb := okA_good hb
  have na : ∀ c ∈ a.ev.data.toList, 33 ≤ c.toNat := by
    have := (okA_parts ha).2.1
    rw [isName_size, Bool.and_eq_true] at this
    exact name_no this.2
  have nb : ∀ c ∈ b.ev.data.toList, 33 ≤ c.toNat := by
    have := (okA_parts hb).2.1
    rw [isName_size, Bool.and_eq_true] at this
    exact name_no this.2
  rw [textL_pre, textL_pre] at e
  unfold preL at e
  simp only [List.append_assoc, List.cons_append, List.nil_append] at e
  simp only [List.cons.injEq, true_and] at e
  obtain ⟨e1, e⟩ := cut_at (fun hm => absurd (na _ hm) (by decide)) (fun hm => absurd (nb _ hm) (by decide)) e
  obtain ⟨e2, e⟩ := cut_at (itoa_no ga.ver.1 (by decide)) (itoa_no gb.ver.1 (by decide)) e
  simp only [List.cons.injEq, true_and] at e
  obtain ⟨e3, e⟩ := cut_at (itoa_no ga.tm.1 (by decide)) (itoa_no gb.tm.1 (by decide)) e
  simp only [List.cons.injEq, true_and] at e
  obtain ⟨e4, e⟩ := cut_at (itoa_no ga.n.1 (by decide)) (itoa_no gb.n.1 (by decide)) e
  obtain ⟨e5, e⟩ := cut_at (itoa_no ga.of.1 (by decide)) (itoa_no gb.of.1 (by decide)) e
  simp only [List.cons.injEq, true_and] at e
  obtain ⟨e6, e⟩ := cut_at (itoa_no ga.grid.1 (by decide)) (itoa_no gb.grid.1 (by decide)) e
  obtain ⟨e7, e⟩ := cut_at (where_no ga) (where_no gb) e
  simp only [List.cons.injEq, true_and] at e
  obtain ⟨e8, _⟩ := cut_at (itoa_no ga.before.1 (by decide)) (itoa_no gb.before.1 (by decide)) e
  obtain ⟨w1, w2⟩ := where_inj ga gb e7
  obtain ⟨ev, ver, tm, n, of, grid, cells, wd, before⟩ := a
  obtain ⟨ev', ver', tm', n', of', grid', cells', wd', before'⟩ := b
  have h1 : ev = ev' := ByteArray.ext (Array.toList_inj.1 e1)
  have h2 : ver = ver' := itoa_inj ga.ver.1 gb.ver.1 e2
  have h3 : tm = tm' := itoa_inj ga.tm.1 gb.tm.1 e3
  have h4 : n = n' := itoa_inj ga.n.1 gb.n.1 e4
  have h5 : of = of' := itoa_inj ga.of.1 gb.of.1 e5
  have h6 : grid = grid' := itoa_inj ga.grid.1 gb.grid.1 e6
  have h7 : before = before' := itoa_inj ga.before.1 gb.before.1 e8
  have h8 : wd = wd' := w1
  have h9 : cells = cells' := w2
  rw [h1, h2, h3, h4, h5, h6, h7, h8, h9]
end Al
end Go.Proofs.YtohfofecbdfkgaaGreatDoor

/-
  Plain: of each version the different texts of notices, and who signed each one.
-/
namespace Go.Proofs.YtohfofecbdfkgaaGreatDoor
open Go.RowKit Al

/-- What is not there yet goes behind. -/
def addI (a : List Int) (y : Int) : List Int := if y ∈ a then a else a ++ [y]
def uni (a l : List Int) : List Int := l.foldl addI a
theorem mem_addI {a : List Int} {y z : Int} : z ∈ addI a y ↔ z ∈ a ∨ z = y := by
  unfold addI
  split
  · rename_i h
    exact ⟨.inl, fun e => e.elim id (fun e => e ▸ h)⟩
  · simp
theorem mem_uni {z : Int} : ∀ {l a : List Int}, z ∈ uni a l ↔ z ∈ a ∨ z ∈ l
  | [], a => by simp [uni]
  | y :: l, a => by
    have h : uni a (y :: l) = uni (addI a y) l := rfl
    rw [h, mem_uni, mem_addI]
    simp [or_assoc]
theorem uni_snoc (a l : List Int) (y : Int) : uni a (l ++ [y]) = addI (uni a l) y := by simp [uni]
theorem addI_len (a : List Int) (y : Int) : (addI a y).length ≤ a.length + 1 := by
  unfold addI
  split <;> simp
theorem uni_len : ∀ (l a : List Int), (uni a l).length ≤ a.length + l.length
  | [], a => by simp [uni]
  | y :: l, a => by
    have h : uni a (y :: l) = uni (addI a y) l := rfl
    rw [h]
    have h1 := uni_len l (addI a y)
    have h2 := addI_len a y
    simp
    omega
/-- Who signed a notice; its text. -/
def It.who (x : It) : List Int := x.n.sg.map (·.1)
def It.tx (x : It) : List UInt8 := textL x.n.a
def addT (v : Int) (a : List (List UInt8)) (x : It) : List (List UInt8) := if x.n.a.ver = v then (if x.tx ∈ a then a else a ++ [x.tx]) else a
def addS (v : Int) (s : List UInt8) (a : List Int) (x : It) : List Int := if x.n.a.ver = v ∧ x.tx = s then uni a x.who else a
/-- The different texts of a version. -/
def textsV (L : List It) (v : Int) : List (List UInt8) := L.foldl (addT v) []
/-- Who signed a text of a version. -/
def sgs (L : List It) (v : Int) (s : List UInt8) : List Int := L.foldl (addS v s) []
theorem textsV_snoc (L : List It) (x : It) (v : Int) : textsV (L ++ [x]) v = addT v (textsV L v) x := by simp [textsV]
theorem sgs_snoc (L : List It) (x : It) (v : Int) (s : List UInt8) : sgs (L ++ [x]) v s = addS v s (sgs L v s) x := by simp [sgs]
theorem mem_addT {v : Int} {a : List (List UInt8)} {x : It} {s : List UInt8} : s ∈ addT v a x ↔ s ∈ a ∨ (x.n.a.ver = v ∧ x.tx = s) := by
  unfold addT
  by_cases h : x.n.a.ver = v
  · rw [if_pos h]
    split
    · rename_i h2
      exact ⟨.inl, fun e => e.elim id (fun e => e.2 ▸ h2)⟩
    · simp [h, eq_comm]
  · rw [if_neg h]
    simp [h]
theorem mem_addS {v : Int} {s : List UInt8} {a : List Int} {x : It} {y : Int} : y ∈ addS v s a x ↔ y ∈ a ∨ (x.n.a.ver = v ∧ x.tx = s ∧ y ∈ x.who) := by
  unfold addS
  split
  · rename_i h
    rw [mem_uni]
    simp [h.1, h.2]
  · rename_i h
    exact ⟨.inl, fun e => e.elim id (fun e => absurd ⟨e.1, e.2.1⟩ h)⟩
theorem mem_textsV {L : List It} {v : Int} {s : List UInt8} : s ∈ textsV L v ↔ ∃ x ∈ L, x.n.a.ver = v ∧ x.tx = s := by
  have key : ∀ (L : List It) (a : List (List UInt8)), s ∈ L.foldl (addT v) a ↔ s ∈ a ∨ ∃ x ∈ L, x.n.a.ver = v ∧ x.tx = s := by
    intro L
    induction L with
    | nil => intro a; simp
    | cons x L ih =>
      intro a
      rw [List.foldl_cons, ih, mem_addT]
      simp [or_assoc]
  unfold textsV
  rw [key]
  simp
theorem mem_sgs {L : List It} {v : Int} {s : List UInt8} {y : Int} : y ∈ sgs L v s ↔ ∃ x ∈ L, x.n.a.ver = v ∧ x.tx = s ∧ y ∈ x.who := by
  have key : ∀ (L : List It) (a : List Int), y ∈ L.foldl (addS v s) a ↔ y ∈ a ∨ ∃ x ∈ L, x.n.a.ver = v ∧ x.tx = s ∧ y ∈ x.who := by
    intro L
    induction L with
    | nil => intro a; simp
    | cons x L ih =>
      intro a
      rw [List.foldl_cons, ih, mem_addS]
      simp [or_assoc]
  unfold sgs
  rw [key]
  simp
theorem textsV_nodup (L : List It) (v : Int) : (textsV L v).Nodup := by
  have key : ∀ (L : List It) (a : List (List UInt8)), a.Nodup → (L.foldl (addT v) a).Nodup := by
    intro L
    induction L with
    | nil => intro a h; exact h
    | cons x L ih =>
      intro a h
      rw [List.foldl_cons]
      refine ih _ ?_
      unfold addT
      split
      · split
        · exact h
        · rename_i h2
          refine List.nodup_append.2 ⟨h, by simp, fun u hu w hw e => h2 ?_⟩
          rw [List.mem_singleton.1 hw] at e
          exact e ▸ hu
      · exact h
  exact key L [] List.nodup_nil
theorem sgs_none {L : List It} {v : Int} {s : List UInt8} (h : s ∉ textsV L v) : sgs L v s = [] := by
  cases hs : sgs L v s with
  | nil => rfl
  | cons y l =>
    obtain ⟨x, hx, h1, h2, _⟩ := mem_sgs.1 (show y ∈ sgs L v s by rw [hs]; simp)
    exact absurd (mem_textsV.2 ⟨x, hx, h1, h2⟩) h
theorem sgs_len {M : Nat} {v : Int} {s : List UInt8} : ∀ (L : List It), (∀ x ∈ L, x.n.sg.length ≤ M) → (sgs L v s).length ≤ L.length * M := by
  have key : ∀ (L : List It) (a : List Int), (∀ x ∈ L, x.n.sg.length ≤ M) → (L.foldl (addS v s) a).length ≤ a.length + L.length * M := by
    intro L
    induction L with
    | nil => intro a _; simp
    | cons x L ih =>
      intro a h
      rw [List.foldl_cons]
      have h1 := ih (addS v s a x) (fun z hz => h z (List.mem_cons_of_mem _ hz))
      have h2 : (addS v s a x).length ≤ a.length + M := by
        have hx := h x List.mem_cons_self
        unfold addS
        split
        · have h3 := uni_len x.who a
          have h4 : x.who.length = x.n.sg.length := by simp [It.who]
          omega
        · omega
      have h5 : (x :: L).length * M = L.length * M + M := by simp [Nat.add_mul]
      omega
  intro L h
  have := key L [] h
  simpa [sgs] using this
theorem textsV_len (L : List It) (v : Int) : (textsV L v).length ≤ L.length := by
  have key : ∀ (L : List It) (a : List (List UInt8)), (L.foldl (addT v) a).length ≤ a.length + L.length := by
    intro L
    induction L with
    | nil => intro a; simp
    | cons x L ih =>
      intro a
      rw [List.foldl_cons]
      have h1 := ih (addT v a x)
      have h2 : (addT v a x).length ≤ a.length + 1 := by
        unfold addT
        split
        · split <;> simp
        · omega
      simp
      omega
  have := key L []
  simpa [textsV] using this
end Go.Proofs.YtohfofecbdfkgaaGreatDoor
