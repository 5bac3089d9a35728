/-
  The walk of the sky's most: are all coordinates of a magnitude?
-/
import Derived.Test.YtmpbhngjkbidcaaGreatDoorW02
import Derived.WalkKit
import Derived.Maps.OwnSet
import Derived.Test.YtmpbhngjkbidcaaGreatDoorW01
namespace Go.Proofs.YtmpbhngjkbidcaaGreatDoor
open Go.RowKit Al

/-- Is one of these outside? -/
def outB (n : Int) (l : List Int) : Bool := l.any fun x => !inB x (-n) n
theorem outB_snoc {n : Int} {l : List Int} {i : Nat} (h : i < l.length) : outB n (l.take (i + 1)) = (outB n (l.take i) || !inB l[i] (-n) n) := by
  unfold outB
  rw [List.take_succ_eq_append_getElem h, List.any_append]
  simp
theorem outB_hit {n : Int} {l : List Int} {i : Nat} (h : i < l.length) (hm : inB l[i] (-n) n = false) : outB n l = true := by
  unfold outB
  rw [List.any_eq_true]
  exact ⟨l[i], List.getElem_mem h, by rw [hm]; rfl⟩
set_option maxRecDepth 100000 in
theorem mostC_ (x n : Int) (b off : Nat) (w : World) (hn : wrap64 (-n) = -n) (h1 : w.cell? ⟨b, off, none⟩ = some (.int .i64 n)) :
    Calls Tryz.prog 139 #[.int .i64 x, .pointer (some ⟨b, off, none⟩)] w fun e w' => e = .returned (.bool (!inB x (-n) n)) ∧ Below w.heap.size w w' := by
  go_enter Tryz.func139, Tryz.ntmps139
  go_wp2_with (go_at_call 38; refine (swithin_ _ _ _ _).mono ?_; rintro e w' ⟨rfl, rfl⟩)
  go_ret
  exact ⟨rfl, (by repeat (first | exact Below.refl _ _ | assumption | refine below_drewN ?_ _ | refine Below.drew ?_ | refine Below.setCell ?_ (by first | omega | (simp; done) | (simp; omega)) _ | refine Below.alloc ?_ (by first | omega | (simp; done) | (simp; omega)) _))⟩
/-- The closure that asks for a magnitude. -/
@[reducible] def mostA (b off : Nat) : Value := .func (.func 139) #[] #[.pointer (some ⟨b, off, none⟩)]
def MoRel (n : Int) (l : List Int) (i : Value) : Prop := ∃ k : Nat, k ≤ l.length ∧ i = .int .i64 k ∧ Hid (outB n (l.take k) = false)
def moOut (n : Int) (l : List Int) (w : World) (e : Ending) (w' : World) : Prop := ∃ i : Int, e = .returned (.int .i64 i) ∧ Hid (decide (0 ≤ i) = outB n l) ∧ Below w.heap.size w w'
set_option maxRecDepth 100000 in
theorem mostI_ (n : Int) (l : List Int) (A : Option Addr) (c b off : Nat) (w : World) (hn : wrap64 (-n) = -n) (hb : b < w.heap.size) (h1 : w.cell? ⟨b, off, none⟩ = some (.int .i64 n)) (h : Sl w w.heap.size 1 A l.length c (ints l)) :
    Calls Tryz.prog 162 #[.slice A l.length c, mostA b off] w (moOut n l w) := by
  have hlen : l.length ≤ maxLen := Nat.le_trans h.cap h.max
  unfold maxLen at hlen
  have HN := Lib.hid hn
  clear hn
  go_enter Tryz.func162, Tryz.ntmps162
  go_wp2
  go_loopw [8] (fun i wr => MoRel n l i ∧ Below w.heap.size w wr) (fun i _ => l.length - (intOf i).toNat)
  case atStart => exact ⟨⟨0, Nat.zero_le _, rfl, rfl⟩, (by repeat (first | exact Below.refl _ _ | assumption | refine below_drewN ?_ _ | refine Below.drew ?_ | refine Below.setCell ?_ (by first | omega | (simp; done) | (simp; omega)) _ | refine Below.alloc ?_ (by first | omega | (simp; done) | (simp; omega)) _))⟩
  case round =>
    obtain ⟨⟨k, hk, rfl, hp⟩, hbw⟩ := hrel
    by_cases hlt : k < l.length
    · obtain ⟨kb, ko, rfl, hkb, hk1⟩ := h.int_at hlt hlt
      have hlt' : (k : Int) < (l.length : Int) := by omega
      obtain ⟨hcw, hfw⟩ := bcell hbw
      have HB := Lib.hid hbw
      have hz := hbw.size
      clear hbw
      have hcx : wr.cell? ⟨b, off, none⟩ = some (.int .i64 n) := (hcw b off hb).trans h1
      cases hm : inB l[k] (-n) n with
      | false =>
        have HX : Hid (outB n l = true) := outB_hit hlt hm
        have HM := Lib.hid hm
        clear hm
        go_wp2_with fail
        refine (mostC_ l[k] n b off _ HN.out hcx).mono ?_
        rintro e w2 ⟨rfl, hb2⟩
        have HW := Lib.hid (HB.out.trans (hb2.mono hz))
        rw [HM.out]
        clear hb2
        go_wp2_with fail
        go_ret
        exact ⟨_, rfl, by show _ = _; rw [HX.out]; exact decide_eq_true (by omega), HW.out⟩
      | true =>
        have HX : Hid (outB n (l.take (k + 1)) = false) := by
          show _ = _
          rw [outB_snoc hlt, hp.out, hm]; rfl
        have HM := Lib.hid hm
        clear hm
        go_wp2_with fail
        refine (mostC_ l[k] n b off _ HN.out hcx).mono ?_
        rintro e w2 ⟨rfl, hb2⟩
        have HW := Lib.hid (HB.out.trans (hb2.mono hz))
        rw [HM.out]
        clear hb2
        go_wp2_with fail
        go_roundw
        case rel => exact ⟨⟨k + 1, by omega, by go_num, HX⟩, HW.out⟩
        case measure => simp [intOf]; omega
    · obtain rfl : k = l.length := by omega
      have HB := Lib.hid hbw
      have HX : Hid (outB n l = false) := by
        show _ = _
        rw [← hp.out, List.take_of_length_le (Nat.le_refl _)]
      clear hbw
      go_wp2_with fail
      go_ret
      exact ⟨_, rfl, by show _ = _; rw [HX.out]; rfl, HB.out⟩
set_option maxRecDepth 100000 in
theorem mostF_ (n : Int) (l : List Int) (A : Option Addr) (c b off : Nat) (w : World) (hn : wrap64 (-n) = -n) (hb : b < w.heap.size) (h1 : w.cell? ⟨b, off, none⟩ = some (.int .i64 n)) (h : Sl w w.heap.size 1 A l.length c (ints l)) :
    Calls Tryz.prog 138 #[.slice A l.length c, mostA b off] w fun e w' => e = .returned (.bool (outB n l)) ∧ Below w.heap.size w w' := by
  have HI := Lib.hid (mostI_ n l A c b off w hn hb h1 h)
  clear h h1
  go_enter Tryz.func138, Tryz.ntmps138
  go_wp2_with fail
  refine HI.out.mono ?_
  rintro e w2 ⟨i, rfl, hi, hb2⟩
  have HW := Lib.hid hb2
  clear hb2
  go_wp2_with fail
  go_ret
  exact ⟨ret_bool hi.out, HW.out⟩
/-- Have all coordinates a magnitude? -/
def mostB (v : V3) (n : Int) : Bool := !outB n [v.1, v.2.1, v.2.2]
/-- A vector's box, with a block behind it, reads as a slice. -/
theorem vec_sl (a b c : Int) (w : World) (o : Obj) : Sl ((w.alloc (.cells #[.int .i64 a, .int .i64 b, .int .i64 c] 110)).alloc o) ((w.alloc (.cells #[.int .i64 a, .int .i64 b, .int .i64 c] 110)).alloc o).heap.size 1 (some ⟨w.heap.size, 0, none⟩) 3 3 (ints [a, b, c]) :=
  ⟨rfl, Nat.le_refl _, by unfold maxLen; omega, (fun h => by cases h), fun _ => ⟨w.heap.size, 0, rfl, by simp; omega, fun j u hu => by
    match j, hu with
    | 0, hu => cases hu; simp [go_sem]
    | 1, hu => cases hu; simp [go_sem]
    | 2, hu => cases hu; simp [go_sem]⟩⟩
set_option maxRecDepth 100000 in
theorem most_ (v : V3) (n : Int) (w : World) (hn : wrap64 (-n) = -n) : Calls Tryz.prog 115 #[v3 v, .int .i64 n] w fun e w' => e = .returned (.bool (mostB v n)) ∧ Below w.heap.size w w' := by
  obtain ⟨a, b, c⟩ := v
  have HN := Lib.hid hn
  clear hn
  go_enter Tryz.func115, Tryz.ntmps115
  go_wp2_with fail
  have HS := Lib.hid (vec_sl a b c w (.cells #[.int .i64 n] 3))
  refine (mostF_ n [a, b, c] (some ⟨w.heap.size, 0, none⟩) 3 (w.heap.size + 1) 0 _ HN.out (by simp) (by simp [go_sem]) HS.out).mono ?_
  rintro e w1 ⟨rfl, hb⟩
  have HW : Hid (Below w.heap.size w w1) := (show Below w.heap.size w _ from (by repeat (first | exact Below.refl _ _ | assumption | refine below_drewN ?_ _ | refine Below.drew ?_ | refine Below.setCell ?_ (by first | omega | (simp; done) | (simp; omega)) _ | refine Below.alloc ?_ (by first | omega | (simp; done) | (simp; omega)) _))).trans (hb.mono (by first | omega | (simp; done) | (simp; omega)))
  clear hb
  go_wp2_with fail
  go_ret
  exact ⟨rfl, HW.out⟩
end Go.Proofs.YtmpbhngjkbidcaaGreatDoor

/-
  Maps in memory, whatever the keys: what stands at each key. (Without the boards of alerts.)
-/
namespace Go.Proofs.YtmpbhngjkbidcaaGreatDoor
open Go.RowKit

/-- A map's elements read as themselves. -/
def QapR : Value → Option (DataW Value × List MemPlace) := fun v => some (.held v, [])
theorem keyLawQ : Maps.Keyed Tryz.prog 9 := Maps.string_keyed Tryz.underlying9
theorem isKeyQ (s : List UInt8) : WideAt.IsKeyLit (.string s) := by first | trivial | (simp [WideAt.IsKeyLit]; done)
/-- Block mb is a map with c entries: what f says of each key. -/
def QapK {α : Type} (kt : TypeId) (mk : α → Lit) (w : World) (mb n c : Nat) (f : α → Option Value) : Prop :=
  ∃ D : DataW Value, w.ownsMap Tryz.prog kt QapR mb n D ∧ Maps.size D = c ∧ ∀ s, Maps.has D (mk s) = (f s).isSome ∧ ∀ v, f s = some v → ∀ z, D.atKey (mk s) z = .held v
section
variable {α : Type} {kt : TypeId} {mk : α → Lit} {w : World} {mb n c : Nat} {f : α → Option Value}
theorem QapK.made (kt : TypeId) (mk : α → Lit) (w : World) : QapK kt mk (w.alloc (.map #[] 0)) w.heap.size 0 0 (fun _ => none) :=
  ⟨_, World.ownsMap_made w _ _ _, rfl, fun _ => ⟨rfl, fun _ h => (nomatch h)⟩⟩
theorem QapK.lt (h : QapK kt mk w mb n c f) : mb < w.heap.size := by
  obtain ⟨D, h1, _⟩ := h
  exact h1.lt
theorem QapK.mono (h : QapK kt mk w mb n c f) {m : Nat} (hm : n ≤ m) : QapK kt mk w mb m c f := by
  obtain ⟨D, h1, h2⟩ := h
  exact ⟨D, h1.mono hm, h2⟩
theorem QapK.kept (h : QapK kt mk w mb n c f) {w' : World} (hb : w'.heap[mb]? = w.heap[mb]?) : QapK kt mk w' mb n c f := by
  obtain ⟨D, ⟨es, clock, he, r⟩, h2⟩ := h
  exact ⟨D, ⟨es, clock, hb.trans he, r⟩, h2⟩
theorem QapK.below (h : QapK kt mk w mb n c f) {w' : World} (hb : Below w.heap.size w w') : QapK kt mk w' mb n c f := h.kept (hb.block mb h.lt)
theorem QapK.look (h : QapK kt mk w mb n c f) {t e : TypeId} (K : Maps.Keyed Tryz.prog kt) (ht : Tryz.prog.underlying t = some (.map kt e)) {z : Value} (hz : (zeroValue e).run Tryz.prog w = .ok z w) {key : Value} {s : α} (hkey : keyOf Tryz.prog kt key = some (mk s)) :
    (Instr.lookup t (.map (some mb)) key false).run Tryz.prog w = .ok ((f s).getD z) w := by
  obtain ⟨D, h1, _, h2⟩ := h
  obtain ⟨hh, ha⟩ := h2 s
  obtain ⟨v, ps, hrun, hv⟩ := h1.lookup K ht hz (zd := .held z) (zp := []) rfl hkey
  rw [hrun]
  have hv' : DataW.held v = D.atKey (mk s) (.held z) := congrArg Prod.fst (Option.some.inj hv)
  cases hf : f s with
  | none =>
    rw [hf] at hh
    rw [Maps.atKey_of_not_has hh] at hv'
    cases hv'
    rfl
  | some u =>
    rw [ha u hf] at hv'
    cases hv'
    rfl
theorem QapK.put [DecidableEq α] (h : QapK kt mk w mb n c f) {t e : TypeId} (K : Maps.Keyed Tryz.prog kt) (ht : Tryz.prog.underlying t = some (.map kt e)) (hn : n < maxLen) {key : Value} {s : α} (hkey : keyOf Tryz.prog kt key = some (mk s)) (hinj : ∀ u, mk u = mk s → u = s) (hK : WideAt.IsKeyLit (mk s)) (v : Value) :
    ∃ w', (Instr.mapUpdate t (.map (some mb)) key v).run Tryz.prog w = .ok () w' ∧ QapK kt mk w' mb (n + 1) (if (f s).isSome then c else c + 1) (fun k => if k = s then some v else f k) ∧ w.grownBy w' (some mb) := by
  obtain ⟨D, h1, hc, h2⟩ := h
  obtain ⟨w', hrun, h3, h4⟩ := h1.update K ht hn hkey (val := v) (d := .held v) (ps := []) rfl
  have hm := h1.isMap
  refine ⟨w', hrun, ⟨_, h3, ?_, fun k => ?_⟩, h4⟩
  · rw [Maps.size_put (h1.tidy K), (h2 s).1, hc]
  by_cases hk : k = s
  · subst hk
    simp only [if_true]
    refine ⟨Maps.has_put_same hm hK _, fun u hu z => ?_⟩
    cases hu
    exact Maps.atKey_put_same hm hK _ _
  · simp only [if_neg hk]
    have hne : mk k ≠ mk s := fun e => hk (hinj _ e)
    obtain ⟨hh, ha⟩ := h2 k
    refine ⟨by rw [Maps.has_put_other hne]; exact hh, fun u hu z => ?_⟩
    rw [Maps.atKey_put_other hne]
    exact ha u hu z
end

abbrev QapS := QapK 9 Lit.string
theorem strLit_injQ (s u : List UInt8) (h : Lit.string u = .string s) : u = s := by injection h
end Go.Proofs.YtmpbhngjkbidcaaGreatDoor

/-
  The walks of the search's distance and chance.
-/
namespace Go.Proofs.YtmpbhngjkbidcaaGreatDoor
open Go.RowKit Al

/-- The greater of both differences. -/
def distM (s t : Int) : Int := if wrap64 (s - t) < wrap64 (t - s) then wrap64 (t - s) else wrap64 (s - t)
def distI (s t live : Int) : Int := if wrap64 (live - distM s t) < distM s t then wrap64 (live - distM s t) else distM s t
theorem distI_lt {s t live : Int} (h : wrap64 (live - distM s t) < distM s t) : wrap64 (live - distM s t) = distI s t live := by unfold distI; rw [if_pos h]
theorem distI_ge {s t live : Int} (h : distM s t ≤ wrap64 (live - distM s t)) : distM s t = distI s t live := by unfold distI; rw [if_neg (Int.not_lt.2 h)]
theorem distance_ (s t live : Int) (w : World) :
    Calls Tryz.prog 69 #[.int .i64 s, .int .i64 t, .int .i64 live] w fun e w' => e = .returned (.int .i64 (distI s t live)) ∧ w = w' := by
  go_enter Tryz.func69, Tryz.ntmps69
  go_wp2_with fail
  all_goals go_ret
  all_goals rename_i h1
  all_goals refine ⟨ret_int ?_, rfl⟩
  all_goals (have e : (if wrap64 (s - t) < wrap64 (t - s) then wrap64 (t - s) else wrap64 (s - t)) = distM s t := rfl)
  all_goals rw [e] at h1
  · rw [← distI_lt h1]; unfold distM; rw [if_pos h]
  · rw [← distI_lt h1]; unfold distM; rw [if_neg (Int.not_lt.2 h)]
  · rw [← distI_ge h1]; unfold distM; rw [if_pos h]
  · rw [← distI_ge h1]; unfold distM; rw [if_neg (Int.not_lt.2 h)]

theorem two_set {W : World} {b : Nat} {x y : Value} (h0 : W.cell? ⟨b, 0, none⟩ = some x) (h1 : W.cell? ⟨b, 1, none⟩ = some y) (u v : Value) :
    ((W.setCell ⟨b, 0, none⟩ u).setCell ⟨b, 1, none⟩ v).cell? ⟨b, 0, none⟩ = some u ∧ ((W.setCell ⟨b, 0, none⟩ u).setCell ⟨b, 1, none⟩ v).cell? ⟨b, 1, none⟩ = some v :=
  ⟨(World.cell?_setCell_other _ _ _ _ (by simp)).trans (World.cell?_setCell_same _ _ _ h0), World.cell?_setCell_same _ _ _ ((World.cell?_setCell_other _ _ _ _ (by simp)).trans h1)⟩
/-- The end of a function whose result is two cells of a block of its own. -/
theorem fin2 {P : Program} {fn : Func} {R : Ending → World → Prop} {a : Act} {w : World} (b : Nat) {u v x y : Value} (val : Value) (hd : a.defers = [])
    (hres : ∀ W : World, W.cell? ⟨b, 0, none⟩ = some u → W.cell? ⟨b, 1, none⟩ = some v → (results fn a.tmps).run P W = .ok val W)
    (h0 : w.cell? ⟨b, 0, none⟩ = some x) (h1 : w.cell? ⟨b, 1, none⟩ = some y) (hR : R (.returned val) ((w.setCell ⟨b, 0, none⟩ u).setCell ⟨b, 1, none⟩ v)) :
    bodyPost P fn R .ret a ((w.setCell ⟨b, 0, none⟩ u).setCell ⟨b, 1, none⟩ v) :=
  bodyPost_ret (hres _ (two_set h0 h1 u v).1 (two_set h0 h1 u v).2) hd hR
/-- How many numbers are at least one. -/
def cntG (l : List Int) (x : Int) : Nat := (l.filter fun y => decide (x ≤ y)).length
theorem cntG_le (l : List Int) (x : Int) : cntG l x ≤ l.length := List.length_filter_le _ _
theorem cntG_yes {l : List Int} {x : Int} {k : Nat} (h : k < l.length) (hx : x ≤ l[k]) : cntG (l.take (k + 1)) x = cntG (l.take k) x + 1 := by
  unfold cntG
  rw [List.take_succ_eq_append_getElem h, List.filter_append, List.length_append]
  simp [hx]
theorem cntG_no {l : List Int} {x : Int} {k : Nat} (h : k < l.length) (hx : ¬ x ≤ l[k]) : cntG (l.take (k + 1)) x = cntG (l.take k) x := by
  unfold cntG
  rw [List.take_succ_eq_append_getElem h, List.filter_append, List.length_append]
  simp [hx]
/-- The chance's count. -/
def chN (l : List Int) (x : Int) : Nat := max (cntG l x) 1
theorem chN_ge (l : List Int) (x : Int) : 1 ≤ chN l x := Nat.le_max_right _ _
set_option maxRecDepth 100000 in
set_option maxHeartbeats 2000000 in
theorem sChance_ (l : List Int) (x : Int) (A : Option Addr) (c : Nat) (w : World) (h : Sl w w.heap.size 1 A l.length c (ints l)) :
    Calls Tryz.prog 31 #[.slice A l.length c, .int .i64 x] w fun e w' => e = .returned (.agg #[.int .i64 (chN l x), .int .i64 l.length]) ∧ Below w.heap.size w w' := by
  have hl : l.length ≤ maxLen := Nat.le_trans h.cap h.max
  unfold maxLen at hl
  have HL := Lib.hid h
  clear h
  go_enter Tryz.func31, Tryz.ntmps31
  go_wp2_with fail
  go_loopw [5, 10] (fun n i wr => (∃ (k : Nat), k ≤ l.length ∧ n = .int .i64 (cntG (l.take k) x) ∧ i = .int .i64 k) ∧ Below (w.heap.size + 1) (w.alloc (.cells #[.int .i64 0, .int .i64 0] 43)) wr) (fun _ i _ => l.length - (intOf i).toNat)
  case atStart => exact ⟨⟨0, Nat.zero_le _, rfl, rfl⟩, Below.refl _ _⟩
  case round =>
    obtain ⟨⟨k, hk, rfl, rfl⟩, hbw⟩ := hrel
    have hm : cntG (l.take k) x ≤ k := Nat.le_trans (cntG_le _ _) (List.length_take_le _ _)
    have HW := Lib.hid hbw
    have HW0 : Hid (Below w.heap.size w wr) := (show Below w.heap.size w _ from (by repeat (first | exact Below.refl _ _ | assumption | refine below_drewN ?_ _ | refine Below.drew ?_ | refine Below.setCell ?_ (by first | omega | (simp; done) | (simp; omega)) _ | refine Below.alloc ?_ (by first | omega | (simp; done) | (simp; omega)) _))).trans (hbw.mono (by omega))
    obtain ⟨hcw, hfw⟩ := bcell hbw
    have hsz := hbw.size
    simp at hsz
    clear hbw
    by_cases hlt : k < l.length
    · obtain ⟨b, o, rfl, hb, hc⟩ := (HL.out.below HW0.out).int_at hlt hlt
      have i0 : (0 : Int) ≤ (k : Int) := by omega
      have i1 : (k : Int) < (l.length : Int) := by omega
      have hb2 : b < wr.heap.size := by omega
      by_cases hx : x ≤ l[k]
      · have hd : decide (x ≤ l[k]) = true := decide_eq_true hx
        have HC := Lib.hid (cntG_yes hlt hx)
        obtain ⟨m, hmm⟩ : ∃ m, cntG (l.take k) x = m := ⟨_, rfl⟩
        rw [hmm] at HC hm ⊢
        clear hmm
        clear hcw hfw
        go_wp2_with fail
        go_roundw
        case rel => exact ⟨⟨k + 1, by omega, by rw [HC.out]; go_num, by go_num⟩, HW.out⟩
        case measure => simp [intOf]; omega
      · have hd : decide (x ≤ l[k]) = false := decide_eq_false hx
        have HC := Lib.hid (cntG_no hlt hx)
        obtain ⟨m, hmm⟩ : ∃ m, cntG (l.take k) x = m := ⟨_, rfl⟩
        rw [hmm] at HC hm ⊢
        clear hmm
        clear hcw hfw
        go_wp2_with fail
        go_roundw
        case rel => exact ⟨⟨k + 1, by omega, by rw [HC.out], by go_num⟩, HW.out⟩
        case measure => simp [intOf]; omega
    · obtain rfl : k = l.length := by omega
      have hz : w.heap.size < wr.heap.size := by omega
      have p0 : wr.cell? ⟨w.heap.size, 0, none⟩ = some (.int .i64 0) := by rw [hcw _ _ (by omega)]; simp [go_sem]
      have p1 : wr.cell? ⟨w.heap.size, 1, none⟩ = some (.int .i64 0) := by rw [hcw _ _ (by omega)]; simp [go_sem]
      have P0 := Lib.hid p0
      have P1 := Lib.hid p1
      clear p0 p1
      have hch : chN l x = max (cntG (l.take l.length) x) 1 := by unfold chN; rw [List.take_of_length_le (Nat.le_refl _)]
      have HCH := Lib.hid hch
      obtain ⟨m, hmm⟩ : ∃ m, cntG (l.take l.length) x = m := ⟨_, rfl⟩
      rw [hmm] at HCH hm ⊢
      clear hmm hch
      by_cases hm1 : m < 1
      · have hv : chN l x = 1 := by rw [HCH.out]; omega
        have HV := Lib.hid hv
        have hm2 : (m : Int) < 1 := by omega
        clear hv hm1
        go_wp2_with fail
        refine fin2 w.heap.size (.agg #[.int .i64 1, .int .i64 l.length]) rfl (fun W e0 e1 => by simp [results, Tryz.results31, go_sem, e0, e1]) P0.out P1.out ⟨by rw [HV.out]; rfl, ((HW0.out.setCell (by simp) _).setCell (by simp) _)⟩
      · have hv : chN l x = m := by rw [HCH.out]; omega
        have HV := Lib.hid hv
        have hm2 : ¬ (m : Int) < 1 := by omega
        clear hv hm1
        go_wp2_with fail
        refine fin2 w.heap.size (.agg #[.int .i64 m, .int .i64 l.length]) rfl (fun W e0 e1 => by simp [results, Tryz.results31, go_sem, e0, e1]) P0.out P1.out ⟨by rw [HV.out], ((HW0.out.setCell (by simp) _).setCell (by simp) _)⟩
end Go.Proofs.YtmpbhngjkbidcaaGreatDoor

/-
  The walk of the search's clock, over two lists.
-/
namespace Go.Proofs.YtmpbhngjkbidcaaGreatDoor
open Go.RowKit Al

/-- What a clock that is none of an error says. -/
structure ClockOk (live window step : Int) (la lb : List Trg) : Prop where
  lv : 1 ≤ live ∧ live ≤ 1073741824
  win : 0 ≤ window ∧ window ≤ live - 1
  st : 1 ≤ step ∧ step ≤ live
  rem : live.tmod step = 0
  quo : live.tdiv step ≤ 256
  a : la.length ≤ 256
  b : lb.length ≤ 256
def ClockSays (live window step : Int) (la lb : List Trg) (w : World) (e : Ending) (w' : World) : Prop := ∃ k : Int, e = .returned (.int .i64 k) ∧ (k = 0 → ClockOk live window step la lb) ∧ Below w.heap.size w w'
theorem tr81 {p : Prop} (h : (81 : Int) = 0) : p := by cases h
theorem trK {p : Prop} {k : Int} (hk : (k != 0) = true) (h : k = 0) : p := by subst h; cases hk

theorem quo_in {live step q : Int} (h1 : 1 ≤ live) (h2 : live ≤ 1073741824) (hs : 1 ≤ step ∧ step ≤ live) (hq : wrap64 (live.tdiv step) = q) (hm : q ≤ 256) : live.tdiv step ≤ 256 := by
  have a : 0 ≤ live.tdiv step := Int.tdiv_nonneg (by omega) (by omega)
  have b : live.tdiv step ≤ live := by
    rw [Int.tdiv_eq_ediv_of_nonneg (by omega)]
    exact Int.ediv_le_self _ (by omega)
  rw [show wrap64 (live.tdiv step) = live.tdiv step by unfold wrap64; omega] at hq
  omega
set_option maxRecDepth 100000 in
set_option maxHeartbeats 8000000 in
theorem clock_ (live window step : Int) (la lb : List Trg) (A : Option Addr) (ca : Nat) (B : Option Addr) (cb g : Nat) (w : World) (ha : Sl w w.heap.size 3 A la.length ca (trCells la)) (hb : Sl w w.heap.size 3 B lb.length cb (trCells lb))
    (h0 : w.cell? ⟨g, 0, none⟩ = some (.slice A la.length ca)) (h1 : w.cell? ⟨g, 1, none⟩ = some (.slice B lb.length cb)) (hg : g < w.heap.size) :
    Calls Tryz.prog 26 #[.int .i64 live, .int .i64 window, .int .i64 step, .slice (some ⟨g, 0, none⟩) 2 2] w (ClockSays live window step la lb w) := by
  have HA := Lib.hid ha
  have HB := Lib.hid hb
  have H0 := Lib.hid h0
  have H1 := Lib.hid h1
  clear ha hb h0 h1
  go_enter Tryz.func26, Tryz.ntmps26
  go_wp2_with fail
  go_loopw [17] (fun i wr => (∃ k : Nat, k ≤ 2 ∧ i = .int .i64 k ∧ Hid (1 ≤ k → la.length ≤ 256) ∧ Hid (2 ≤ k → lb.length ≤ 256)) ∧ Below w.heap.size w wr) (fun i _ => 2 - (intOf i).toNat)
  case atStart => exact ⟨⟨0, by omega, rfl, Lib.hid (fun h => by omega), Lib.hid (fun h => by omega)⟩, Below.refl _ _⟩
  case round =>
    obtain ⟨⟨k, hk, rfl, ka, kb⟩, hbw⟩ := hrel
    have HW := Lib.hid hbw
    have hsz := hbw.size
    have hg1 : g < wr.heap.size := by omega
    have c0 : wr.cell? ⟨g, 0, none⟩ = some (.slice A la.length ca) := (hbw.cell (p := ⟨g, 0, none⟩) hg).trans H0.out
    have c1 : wr.cell? ⟨g, 1, none⟩ = some (.slice B lb.length cb) := (hbw.cell (p := ⟨g, 1, none⟩) hg).trans H1.out
    clear hbw
    obtain rfl | rfl | rfl : k = 0 ∨ k = 1 ∨ k = 2 := by omega
    · go_wp2_with fail
      refine (checkTriggers_ la A ca _ ((HA.out.below HW.out).more hsz)).mono ?_
      rintro e w1 ⟨j, rfl, hj, hb⟩
      have HW1 := Lib.hid (HW.out.trans (hb.mono hsz))
      have HJ := Lib.hid hj
      clear hb hj c0 c1
      by_cases hj0 : j = 0
      · subst hj0
        go_wp2_with fail
        go_roundw
        case rel => exact ⟨⟨1, by omega, by go_num, Lib.hid (fun _ => HJ.out (by simp)), Lib.hid (fun h => by omega)⟩, HW1.out⟩
        case measure => simp [intOf]
      · have hj1 : (j != 0) = true := by simpa using hj0
        clear hj0
        go_wp2_with fail
        go_ret
        exact ⟨j, rfl, trK hj1, HW1.out⟩
    · go_wp2_with fail
      refine (checkTriggers_ lb B cb _ ((HB.out.below HW.out).more hsz)).mono ?_
      rintro e w1 ⟨j, rfl, hj, hb⟩
      have HW1 := Lib.hid (HW.out.trans (hb.mono hsz))
      have HJ := Lib.hid hj
      clear hb hj c0 c1
      by_cases hj0 : j = 0
      · subst hj0
        go_wp2_with fail
        go_roundw
        case rel => exact ⟨⟨2, by omega, by go_num, Lib.hid (fun _ => ka.out (by omega)), Lib.hid (fun _ => HJ.out (by simp))⟩, HW1.out⟩
        case measure => simp [intOf]
      · have hj1 : (j != 0) = true := by simpa using hj0
        clear hj0
        go_wp2_with fail
        go_ret
        exact ⟨j, rfl, trK hj1, HW1.out⟩
    · clear c0 c1
      have KA := Lib.hid (ka.out (by omega))
      have KB := Lib.hid (kb.out (by omega))
      clear ka kb
      cases b1 : inB live 1 1073741824 with
      | false =>
        go_wp2_with (go_at_call 27; refine (scWithin_ _ _ _ _).mono ?_; rintro e w' ⟨rfl, rfl⟩)
        go_ret
        exact ⟨81, rfl, tr81, HW.out⟩
      | true =>
        obtain ⟨l1, l2⟩ := inB_true.1 b1
        cases b2 : inB window 0 (live - 1) with
        | false =>
          go_wp2_with (go_at_call 27; refine (scWithin_ _ _ _ _).mono ?_; rintro e w' ⟨rfl, rfl⟩)
          go_ret
          exact ⟨81, rfl, tr81, HW.out⟩
        | true =>
          cases b3 : inB step 1 live with
          | false =>
            go_wp2_with (go_at_call 27; refine (scWithin_ _ _ _ _).mono ?_; rintro e w' ⟨rfl, rfl⟩)
            go_ret
            exact ⟨81, rfl, tr81, HW.out⟩
          | true =>
            have KW := Lib.hid (inB_true.1 b2)
            have KS := Lib.hid (inB_true.1 b3)
            have s0 : step ≠ 0 := by have := KS.out; omega
            obtain ⟨r, hr⟩ : ∃ r, live.tmod step = r := ⟨_, rfl⟩
            obtain ⟨q, hq⟩ : ∃ q, wrap64 (live.tdiv step) = q := ⟨_, rfl⟩
            have KR := Lib.hid hr
            have KQ := Lib.hid hq
            by_cases hm : r = 0
            case neg =>
              have hm1 : (r != 0) = true := by simpa using hm
              have hm2 : (r == 0) = false := by simpa using hm
              go_wp2_with (go_at_call 27; refine (scWithin_ _ _ _ _).mono ?_; rintro e w' ⟨rfl, rfl⟩)
              go_ret
              exact ⟨81, rfl, tr81, HW.out⟩
            case pos =>
              subst hm
              by_cases h256 : 256 < q
              · have hq1 : decide (256 < q) = true := decide_eq_true h256
                go_wp2_with (go_at_call 27; refine (scWithin_ _ _ _ _).mono ?_; rintro e w' ⟨rfl, rfl⟩)
                go_ret
                exact ⟨81, rfl, tr81, HW.out⟩
              · have KM := Lib.hid (Int.not_lt.1 h256)
                have hq1 : decide (256 < q) = false := decide_eq_false h256
                go_wp2_with (go_at_call 27; refine (scWithin_ _ _ _ _).mono ?_; rintro e w' ⟨rfl, rfl⟩)
                go_loopw [57] (fun i wr => (∃ k : Nat, k ≤ 2 ∧ i = .int .i64 k) ∧ Below w.heap.size w wr) (fun i _ => 2 - (intOf i).toNat)
                case atStart => exact ⟨⟨0, by omega, rfl⟩, HW.out⟩
                case round =>
                  clear HW hsz hg1
                  obtain ⟨⟨k, hk, rfl⟩, hbw⟩ := hrel
                  have HW2 := Lib.hid hbw
                  have hsz := hbw.size
                  have hg1 : g < wr.heap.size := by omega
                  have c0 : wr.cell? ⟨g, 0, none⟩ = some (.slice A la.length ca) := (hbw.cell (p := ⟨g, 0, none⟩) hg).trans H0.out
                  have c1 : wr.cell? ⟨g, 1, none⟩ = some (.slice B lb.length cb) := (hbw.cell (p := ⟨g, 1, none⟩) hg).trans H1.out
                  clear hbw
                  obtain rfl | rfl | rfl : k = 0 ∨ k = 1 ∨ k = 2 := by omega
                  · by_cases hn : la.length = 0
                    · have hn1 : decide ((0 : Int) < (la.length : Int)) = false := decide_eq_false (by omega)
                      have hn2 : decide (0 < la.length) = false := decide_eq_false (by omega)
                      clear hn
                      go_wp2_with fail
                      go_roundw
                      case rel => exact ⟨⟨1, by omega, by go_num⟩, HW2.out⟩
                      case measure => simp [intOf]
                    · have hn1 : decide ((0 : Int) < (la.length : Int)) = true := decide_eq_true (by omega)
                      have hn2 : decide (0 < la.length) = true := decide_eq_true (by omega)
                      obtain ⟨tb, tof, hA, htb, t0, -, -⟩ := (HA.out.below HW2.out).tr_at (k := la.length - 1) (by omega)
                      subst hA
                      have htb2 : tb < wr.heap.size := by omega
                      have i0 : (0 : Int) ≤ (la.length : Int) - 1 := by omega
                      have i1 : (la.length : Int) - 1 < (la.length : Int) := by omega
                      have i2 : ((la.length : Int) - 1).toNat = la.length - 1 := by omega
                      have hlen : la.length ≤ 256 := KA.out
                      obtain ⟨tt, htt⟩ : ∃ tt, la[la.length - 1].1 = tt := ⟨_, rfl⟩
                      rw [htt] at t0
                      clear htt hn
                      by_cases hle : live ≤ tt
                      · have hd : decide (live ≤ tt) = true := decide_eq_true hle
                        go_wp2_with fail
                        go_ret
                        exact ⟨81, rfl, tr81, HW2.out⟩
                      · have hd : decide (live ≤ tt) = false := decide_eq_false hle
                        go_wp2_with fail
                        go_roundw
                        case rel => exact ⟨⟨1, by omega, by go_num⟩, HW2.out⟩
                        case measure => simp [intOf]
                  · by_cases hn : lb.length = 0
                    · have hn1 : decide ((0 : Int) < (lb.length : Int)) = false := decide_eq_false (by omega)
                      have hn2 : decide (0 < lb.length) = false := decide_eq_false (by omega)
                      clear hn
                      go_wp2_with fail
                      go_roundw
                      case rel => exact ⟨⟨2, by omega, by go_num⟩, HW2.out⟩
                      case measure => simp [intOf]
                    · have hn1 : decide ((0 : Int) < (lb.length : Int)) = true := decide_eq_true (by omega)
                      have hn2 : decide (0 < lb.length) = true := decide_eq_true (by omega)
                      obtain ⟨tb, tof, hA, htb, t0, -, -⟩ := (HB.out.below HW2.out).tr_at (k := lb.length - 1) (by omega)
                      subst hA
                      have htb2 : tb < wr.heap.size := by omega
                      have i0 : (0 : Int) ≤ (lb.length : Int) - 1 := by omega
                      have i1 : (lb.length : Int) - 1 < (lb.length : Int) := by omega
                      have i2 : ((lb.length : Int) - 1).toNat = lb.length - 1 := by omega
                      have hlen : lb.length ≤ 256 := KB.out
                      obtain ⟨tt, htt⟩ : ∃ tt, lb[lb.length - 1].1 = tt := ⟨_, rfl⟩
                      rw [htt] at t0
                      clear htt hn
                      by_cases hle : live ≤ tt
                      · have hd : decide (live ≤ tt) = true := decide_eq_true hle
                        go_wp2_with fail
                        go_ret
                        exact ⟨81, rfl, tr81, HW2.out⟩
                      · have hd : decide (live ≤ tt) = false := decide_eq_false hle
                        go_wp2_with fail
                        go_roundw
                        case rel => exact ⟨⟨2, by omega, by go_num⟩, HW2.out⟩
                        case measure => simp [intOf]
                  · go_wp2_with fail
                    go_ret
                    exact ⟨0, rfl, fun _ => ⟨⟨l1, l2⟩, KW.out, KS.out, KR.out, quo_in l1 l2 KS.out KQ.out KM.out, KA.out, KB.out⟩, HW2.out⟩
end Go.Proofs.YtmpbhngjkbidcaaGreatDoor
