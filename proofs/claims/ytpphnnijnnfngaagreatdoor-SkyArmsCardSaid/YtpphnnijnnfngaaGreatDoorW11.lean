/-
  The walk of the sky's most: are all coordinates of a magnitude?
-/
import Derived.Test.YtpphnnijnnfngaaGreatDoorW10
import Derived.WalkKit
import Derived.Maps.OwnSet
import Derived.Test.YtpphnnijnnfngaaGreatDoorW01
namespace Go.Proofs.YtpphnnijnnfngaaGreatDoor
open Go.RowKit Al

/-- Is one of these outside? -/
def outB (n : Int) (l : List Int) : Bool := l.any fun x => !inB x (-n) n
theorem outB_snoc {n : Int} {l : List Int} {i : Nat} (h : i < l.length) : outB n (l.take (i + 1)) = (outB n (l.take i) || !inB l[i] (-n) n) := by
  unfold outB
  rw [List.take_succ_eq_append_getElem h, List.any_append]
  simp
theorem outB_hit {n : Int} {l : List Int} {i : Nat} (h : i < l.length) (hm : inB l[i] (-n) n = false) : outB n l = true := by
  unfold outB
  rw [List.any_eq_true]
  exact ⟨l[i], List.getElem_mem h, by rw [hm]; rfl⟩
set_option maxRecDepth 100000 in
theorem mostC_ (x n : Int) (b off : Nat) (w : World) (hn : wrap64 (-n) = -n) (h1 : w.cell? ⟨b, off, none⟩ = some (.int .i64 n)) :
    Calls Tryz.prog 123 #[.int .i64 x, .pointer (some ⟨b, off, none⟩)] w fun e w' => e = .returned (.bool (!inB x (-n) n)) ∧ Below w.heap.size w w' := by
  go_enter Tryz.func123, Tryz.ntmps123
  go_wp2_with (go_at_call 24; refine (swithin_ _ _ _ _).mono ?_; rintro e w' ⟨rfl, rfl⟩)
  go_ret
  exact ⟨rfl, (by repeat (first | exact Below.refl _ _ | assumption | refine below_drewN ?_ _ | refine Below.drew ?_ | refine Below.setCell ?_ (by first | omega | (simp; done) | (simp; omega)) _ | refine Below.alloc ?_ (by first | omega | (simp; done) | (simp; omega)) _))⟩
/-- The closure that asks for a magnitude. -/
@[reducible] def mostA (b off : Nat) : Value := .func (.func 123) #[] #[.pointer (some ⟨b, off, none⟩)]
def MoRel (n : Int) (l : List Int) (i : Value) : Prop := ∃ k : Nat, k ≤ l.length ∧ i = .int .i64 k ∧ Hid (outB n (l.take k) = false)
def moOut (n : Int) (l : List Int) (w : World) (e : Ending) (w' : World) : Prop := ∃ i : Int, e = .returned (.int .i64 i) ∧ Hid (decide (0 ≤ i) = outB n l) ∧ Below w.heap.size w w'
set_option maxRecDepth 100000 in
theorem mostI_ (n : Int) (l : List Int) (A : Option Addr) (c b off : Nat) (w : World) (hn : wrap64 (-n) = -n) (hb : b < w.heap.size) (h1 : w.cell? ⟨b, off, none⟩ = some (.int .i64 n)) (h : Sl w w.heap.size 1 A l.length c (ints l)) :
    Calls Tryz.prog 94 #[.slice A l.length c, mostA b off] w (moOut n l w) := by
  have hlen : l.length ≤ maxLen := Nat.le_trans h.cap h.max
  unfold maxLen at hlen
  have HN := Lib.hid hn
  clear hn
  go_enter Tryz.func94, Tryz.ntmps94
  go_wp2
  go_loopw [8] (fun i wr => MoRel n l i ∧ Below w.heap.size w wr) (fun i _ => l.length - (intOf i).toNat)
  case atStart => exact ⟨⟨0, Nat.zero_le _, rfl, rfl⟩, (by repeat (first | exact Below.refl _ _ | assumption | refine below_drewN ?_ _ | refine Below.drew ?_ | refine Below.setCell ?_ (by first | omega | (simp; done) | (simp; omega)) _ | refine Below.alloc ?_ (by first | omega | (simp; done) | (simp; omega)) _))⟩
  case round =>
    obtain ⟨⟨k, hk, rfl, hp⟩, hbw⟩ := hrel
    by_cases hlt : k < l.length
    · obtain ⟨kb, ko, rfl, hkb, hk1⟩ := h.int_at hlt hlt
      have hlt' : (k : Int) < (l.length : Int) := by omega
      obtain ⟨hcw, hfw⟩ := bcell hbw
      have HB := Lib.hid hbw
      have hz := hbw.size
      clear hbw
      have hcx : wr.cell? ⟨b, off, none⟩ = some (.int .i64 n) := (hcw b off hb).trans h1
      cases hm : inB l[k] (-n) n with
      | false =>
        have HX : Hid (outB n l = true) := outB_hit hlt hm
        have HM := Lib.hid hm
        clear hm
        go_wp2_with fail
        refine (mostC_ l[k] n b off _ HN.out hcx).mono ?_
        rintro e w2 ⟨rfl, hb2⟩
        have HW := Lib.hid (HB.out.trans (hb2.mono hz))
        rw [HM.out]
        clear hb2
        go_wp2_with fail
        go_ret
        exact ⟨_, rfl, by show _ = _; rw [HX.out]; exact decide_eq_true (by omega), HW.out⟩
      | true =>
        have HX : Hid (outB n (l.take (k + 1)) = false) := by
          show _ = _
          rw [outB_snoc hlt, hp.out, hm]; rfl
        have HM := Lib.hid hm
        clear hm
        go_wp2_with fail
        refine (mostC_ l[k] n b off _ HN.out hcx).mono ?_
        rintro e w2 ⟨rfl, hb2⟩
        have HW := Lib.hid (HB.out.trans (hb2.mono hz))
        rw [HM.out]
        clear hb2
        go_wp2_with fail
        go_roundw
        case rel => exact ⟨⟨k + 1, by omega, by go_num, HX⟩, HW.out⟩
        case measure => simp [intOf]; omega
    · obtain rfl : k = l.length := by omega
      have HB := Lib.hid hbw
      have HX : Hid (outB n l = false) := by
        show _ = _
        rw [← hp.out, List.take_of_length_le (Nat.le_refl _)]
      clear hbw
      go_wp2_with fail
      go_ret
      exact ⟨_, rfl, by show _ = _; rw [HX.out]; rfl, HB.out⟩
set_option maxRecDepth 100000 in
theorem mostF_ (n : Int) (l : List Int) (A : Option Addr) (c b off : Nat) (w : World) (hn : wrap64 (-n) = -n) (hb : b < w.heap.size) (h1 : w.cell? ⟨b, off, none⟩ = some (.int .i64 n)) (h : Sl w w.heap.size 1 A l.length c (ints l)) :
    Calls Tryz.prog 66 #[.slice A l.length c, mostA b off] w fun e w' => e = .returned (.bool (outB n l)) ∧ Below w.heap.size w w' := by
  have HI := Lib.hid (mostI_ n l A c b off w hn hb h1 h)
  clear h h1
  go_enter Tryz.func66, Tryz.ntmps66
  go_wp2_with fail
  refine HI.out.mono ?_
  rintro e w2 ⟨i, rfl, hi, hb2⟩
  have HW := Lib.hid hb2
  clear hb2
  go_wp2_with fail
  go_ret
  exact ⟨ret_bool hi.out, HW.out⟩
/-- Have all coordinates a magnitude? -/
def mostB (v : V3) (n : Int) : Bool := !outB n [v.1, v.2.1, v.2.2]
/-- A vector's box, with a block behind it, reads as a slice. -/
theorem vec_sl (a b c : Int) (w : World) (o : Obj) : Sl ((w.alloc (.cells #[.int .i64 a, .int .i64 b, .int .i64 c] 40)).alloc o) ((w.alloc (.cells #[.int .i64 a, .int .i64 b, .int .i64 c] 40)).alloc o).heap.size 1 (some ⟨w.heap.size, 0, none⟩) 3 3 (ints [a, b, c]) :=
  ⟨rfl, Nat.le_refl _, by unfold maxLen; omega, (fun h => by cases h), fun _ => ⟨w.heap.size, 0, rfl, by simp; omega, fun j u hu => by
    match j, hu with
    | 0, hu => cases hu; simp [go_sem]
    | 1, hu => cases hu; simp [go_sem]
    | 2, hu => cases hu; simp [go_sem]⟩⟩
set_option maxRecDepth 100000 in
theorem most_ (v : V3) (n : Int) (w : World) (hn : wrap64 (-n) = -n) : Calls Tryz.prog 86 #[v3 v, .int .i64 n] w fun e w' => e = .returned (.bool (mostB v n)) ∧ Below w.heap.size w w' := by
  obtain ⟨a, b, c⟩ := v
  have HN := Lib.hid hn
  clear hn
  go_enter Tryz.func86, Tryz.ntmps86
  go_wp2_with fail
  have HS := Lib.hid (vec_sl a b c w (.cells #[.int .i64 n] 3))
  refine (mostF_ n [a, b, c] (some ⟨w.heap.size, 0, none⟩) 3 (w.heap.size + 1) 0 _ HN.out (by simp) (by simp [go_sem]) HS.out).mono ?_
  rintro e w1 ⟨rfl, hb⟩
  have HW : Hid (Below w.heap.size w w1) := (show Below w.heap.size w _ from (by repeat (first | exact Below.refl _ _ | assumption | refine below_drewN ?_ _ | refine Below.drew ?_ | refine Below.setCell ?_ (by first | omega | (simp; done) | (simp; omega)) _ | refine Below.alloc ?_ (by first | omega | (simp; done) | (simp; omega)) _))).trans (hb.mono (by first | omega | (simp; done) | (simp; omega)))
  clear hb
  go_wp2_with fail
  go_ret
  exact ⟨rfl, HW.out⟩
end Go.Proofs.YtpphnnijnnfngaaGreatDoor

/-
  Maps in memory, whatever the keys: what stands at each key. (Without the boards of alerts.)
-/
namespace Go.Proofs.YtpphnnijnnfngaaGreatDoor
open Go.RowKit

/-- A map's elements read as themselves. -/
def QapR : Value → Option (DataW Value × List MemPlace) := fun v => some (.held v, [])
theorem keyLawQ : Maps.Keyed Tryz.prog 9 := Maps.string_keyed Tryz.underlying9
theorem isKeyQ (s : List UInt8) : WideAt.IsKeyLit (.string s) := by first | trivial | (simp [WideAt.IsKeyLit]; done)
/-- Block mb is a map with c entries: what f says of each key. -/
def QapK {α : Type} (kt : TypeId) (mk : α → Lit) (w : World) (mb n c : Nat) (f : α → Option Value) : Prop :=
  ∃ D : DataW Value, w.ownsMap Tryz.prog kt QapR mb n D ∧ Maps.size D = c ∧ ∀ s, Maps.has D (mk s) = (f s).isSome ∧ ∀ v, f s = some v → ∀ z, D.atKey (mk s) z = .held v
section
variable {α : Type} {kt : TypeId} {mk : α → Lit} {w : World} {mb n c : Nat} {f : α → Option Value}
theorem QapK.made (kt : TypeId) (mk : α → Lit) (w : World) : QapK kt mk (w.alloc (.map #[] 0)) w.heap.size 0 0 (fun _ => none) :=
  ⟨_, World.ownsMap_made w _ _ _, rfl, fun _ => ⟨rfl, fun _ h => (nomatch h)⟩⟩
theorem QapK.lt (h : QapK kt mk w mb n c f) : mb < w.heap.size := by
  obtain ⟨D, h1, _⟩ := h
  exact h1.lt
theorem QapK.mono (h : QapK kt mk w mb n c f) {m : Nat} (hm : n ≤ m) : QapK kt mk w mb m c f := by
  obtain ⟨D, h1, h2⟩ := h
  exact ⟨D, h1.mono hm, h2⟩
theorem QapK.kept (h : QapK kt mk w mb n c f) {w' : World} (hb : w'.heap[mb]? = w.heap[mb]?) : QapK kt mk w' mb n c f := by
  obtain ⟨D, ⟨es, clock, he, r⟩, h2⟩ := h
  exact ⟨D, ⟨es, clock, hb.trans he, r⟩, h2⟩
theorem QapK.below (h : QapK kt mk w mb n c f) {w' : World} (hb : Below w.heap.size w w') : QapK kt mk w' mb n c f := h.kept (hb.block mb h.lt)
theorem QapK.look (h : QapK kt mk w mb n c f) {t e : TypeId} (K : Maps.Keyed Tryz.prog kt) (ht : Tryz.prog.underlying t = some (.map kt e)) {z : Value} (hz : (zeroValue e).run Tryz.prog w = .ok z w) {key : Value} {s : α} (hkey : keyOf Tryz.prog kt key = some (mk s)) :
    (Instr.lookup t (.map (some mb)) key false).run Tryz.prog w = .ok ((f s).getD z) w := by
  obtain ⟨D, h1, _, h2⟩ := h
  obtain ⟨hh, ha⟩ := h2 s
  obtain ⟨v, ps, hrun, hv⟩ := h1.lookup K ht hz (zd := .held z) (zp := []) rfl hkey
  rw [hrun]
  have hv' : DataW.held v = D.atKey (mk s) (.held z) := congrArg Prod.fst (Option.some.inj hv)
  cases hf : f s with
  | none =>
    rw [hf] at hh
    rw [Maps.atKey_of_not_has hh] at hv'
    cases hv'
    rfl
  | some u =>
    rw [ha u hf] at hv'
    cases hv'
    rfl
theorem QapK.put [DecidableEq α] (h : QapK kt mk w mb n c f) {t e : TypeId} (K : Maps.Keyed Tryz.prog kt) (ht : Tryz.prog.underlying t = some (.map kt e)) (hn : n < maxLen) {key : Value} {s : α} (hkey : keyOf Tryz.prog kt key = some (mk s)) (hinj : ∀ u, mk u = mk s → u = s) (hK : WideAt.IsKeyLit (mk s)) (v : Value) :
    ∃ w', (Instr.mapUpdate t (.map (some mb)) key v).run Tryz.prog w = .ok () w' ∧ QapK kt mk w' mb (n + 1) (if (f s).isSome then c else c + 1) (fun k => if k = s then some v else f k) ∧ w.grownBy w' (some mb) := by
  obtain ⟨D, h1, hc, h2⟩ := h
  obtain ⟨w', hrun, h3, h4⟩ := h1.update K ht hn hkey (val := v) (d := .held v) (ps := []) rfl
  have hm := h1.isMap
  refine ⟨w', hrun, ⟨_, h3, ?_, fun k => ?_⟩, h4⟩
  · rw [Maps.size_put (h1.tidy K), (h2 s).1, hc]
  by_cases hk : k = s
  · subst hk
    simp only [if_true]
    refine ⟨Maps.has_put_same hm hK _, fun u hu z => ?_⟩
    cases hu
    exact Maps.atKey_put_same hm hK _ _
  · simp only [if_neg hk]
    have hne : mk k ≠ mk s := fun e => hk (hinj _ e)
    obtain ⟨hh, ha⟩ := h2 k
    refine ⟨by rw [Maps.has_put_other hne]; exact hh, fun u hu z => ?_⟩
    rw [Maps.atKey_put_other hne]
    exact ha u hu z
end

abbrev QapS := QapK 9 Lit.string
theorem strLit_injQ (s u : List UInt8) (h : Lit.string u = .string s) : u = s := by injection h
end Go.Proofs.YtpphnnijnnfngaaGreatDoor
