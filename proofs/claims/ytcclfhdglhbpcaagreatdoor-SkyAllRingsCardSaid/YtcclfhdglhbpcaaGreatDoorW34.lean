/-
  The walk of heard: the arrivals of a shout.
-/
import Derived.Test.YtcclfhdglhbpcaaGreatDoorW33
import Derived.Test.YtcclfhdglhbpcaaGreatDoorW17
import Derived.Deep.RegionLaw
import Derived.Deep.AppendLies
namespace Go.Proofs.YtcclfhdglhbpcaaGreatDoor
open Go.RowKit Al

theorem Mod_at (n m r : Int) (h : n % m = r) (hm : 1 ≤ m) (hm2 : m ≤ 4611686018427387904) (w : World) : Calls Tryz.prog 28 #[.int .i64 n, .int .i64 m] w fun e w' => e = .returned (.int .i64 r) ∧ w = w' := h ▸ Mod_ n m hm hm2 w
theorem infoArv : (Tryz.prog.info? 41).map (fun i => (i.zero, i.size, i.bytes)) = some (some (.agg #[.int .i64 0, .int .i64 0, .int .i64 0]), 3, 24) := by kernel_rfl
def arvC (x : Trg) : List Value := [.int .i64 x.1, .int .i64 x.2.1, .int .i64 x.2.2]
theorem arvC_one (x : Trg) : ∀ u ∈ arvC x, u.oneCell' = true := by
  intro u hu
  simp [arvC] at hu
  rcases hu with rfl | rfl | rfl <;> rfl
theorem trCells_snoc (l : List Trg) (x : Trg) : trCells (l ++ [x]) = trCells l ++ arvC x := by
  unfold trCells arvC
  rw [List.flatMap_append]
  simp
theorem hrdT_succ (at' : List Int) (T : Int) (er sl : List Int) (k : Nat) : hrdT at' T er sl (k + 1) = hrdT at' T er sl k ++ [((k : Int), at'.getD k 0 + T % 1073741824 + wrgH er sl k, slkH sl k)] := by
  unfold hrdT
  rw [List.range_succ, List.map_append]
  rfl
/-- A shout in a box. -/
def ShB (W : World) (b : Nat) (lv nv cv : Value) (T : Int) (ev sv : Value) : Prop := W.heap[b]? = some (.cells #[lv, nv, cv, .int .i64 T, ev, sv] 36 (0, 0))
section
variable {W W' : World} {b : Nat} {lv nv cv : Value} {T : Int} {ev sv : Value}
theorem ShB.lt (h : ShB W b lv nv cv T ev sv) : b < W.heap.size := (Array.getElem?_eq_some_iff.1 h).1
theorem ShB.c0 (h : ShB W b lv nv cv T ev sv) : W.cell? ⟨b, 0, none⟩ = some lv := by unfold ShB at h; simp [World.cell?, h]
theorem ShB.c1 (h : ShB W b lv nv cv T ev sv) : W.cell? ⟨b, 1, none⟩ = some nv := by unfold ShB at h; simp [World.cell?, h]
theorem ShB.c2 (h : ShB W b lv nv cv T ev sv) : W.cell? ⟨b, 2, none⟩ = some cv := by unfold ShB at h; simp [World.cell?, h]
theorem ShB.c3 (h : ShB W b lv nv cv T ev sv) : W.cell? ⟨b, 3, none⟩ = some (.int .i64 T) := by unfold ShB at h; simp [World.cell?, h]
theorem ShB.c4 (h : ShB W b lv nv cv T ev sv) : W.cell? ⟨b, 4, none⟩ = some ev := by unfold ShB at h; simp [World.cell?, h]
theorem ShB.c5 (h : ShB W b lv nv cv T ev sv) : W.cell? ⟨b, 5, none⟩ = some sv := by unfold ShB at h; simp [World.cell?, h]
theorem ShB.below (h : ShB W b lv nv cv T ev sv) (g : Below W.heap.size W W') : ShB W' b lv nv cv T ev sv := (g.block b h.lt).trans h
end
def HdRel (at' : List Int) (T : Int) (er sl : List Int) (m : Nat) (W : World) (o i : Value) (wr : World) : Prop := ∃ (k : Nat) (B : Option Addr) (c : Nat), k ≤ m ∧ i = .int .i64 (k : Int) ∧ o = .slice B k c ∧ Hid (wr.ownsRow W.heap.size 41 3 (.slice B k c) k (trCells (hrdT at' T er sl k))) ∧ Hid (Below W.heap.size W wr)
def HrdT (l : List Trg) (w : World) (e : Ending) (w' : World) : Prop := ∃ B c, e = .returned (.slice B l.length c) ∧ w'.ownsRow w.heap.size 41 3 (.slice B l.length c) l.length (trCells l) ∧ Below w.heap.size w w'
theorem hrdT_len (at' : List Int) (T : Int) (er sl : List Int) (k : Nat) : (hrdT at' T er sl k).length = k := by simp [hrdT]
set_option maxRecDepth 100000 in
set_option maxHeartbeats 8000000 in
theorem heard_ (at' er sl : List Int) (T : Int) (lv nv cv : Value) (hcv : lv.oneCell' = true ∧ nv.oneCell' = true ∧ cv.oneCell' = true) (AA EA SA : Option Addr) (ac ec sc : Nat) (w : World) (hA : Sl w w.heap.size 1 AA at'.length ac (ints at')) (hE : Sl w w.heap.size 1 EA er.length ec (ints er)) (hS : Sl w w.heap.size 1 SA sl.length sc (ints sl))
    (hm : at'.length ≤ 6) (hb : ∀ x ∈ at', -131072 ≤ x ∧ x ≤ 131072) :
    Calls Tryz.prog 19 #[.agg #[lv, nv, cv, .int .i64 T, .slice EA er.length ec, .slice SA sl.length sc], .slice AA at'.length ac, .int .i64 (at'.length : Int)] w (HrdT (hrdT at' T er sl at'.length) w) := by
  obtain ⟨i0, hi, hz0, hz1, hz2⟩ := info_parts infoArv
  have her : er.length ≤ maxLen := Nat.le_trans hE.cap hE.max
  have hsl : sl.length ≤ maxLen := Nat.le_trans hS.cap hS.max
  unfold maxLen at her hsl
  have HL := Lib.hid (hrdT_len at' T er sl at'.length)
  have HA := Lib.hid hA
  have HE := Lib.hid hE
  have HS := Lib.hid hS
  have HBD := Lib.hid hb
  have HM3 := Lib.hid (fun W => Mod_at T 1073741824 (T % 1073741824) rfl (by decide) (by decide) W)
  have ht3 : 0 ≤ T % 1073741824 ∧ T % 1073741824 < 1073741824 := by omega
  obtain ⟨r3, hr3⟩ : ∃ r, T % 1073741824 = r := ⟨_, rfl⟩
  have HR3 := Lib.hid hr3
  rw [hr3] at HM3 ht3
  obtain ⟨t30, t31⟩ := ht3
  obtain ⟨x1, x2, x3⟩ := hcv
  clear hA hE hS hb hr3
  go_enter Tryz.func19, Tryz.ntmps19
  go_wp2_with fail
  have HX : Hid (ShB (w.alloc (.cells #[lv, nv, cv, .int .i64 T, .slice EA er.length ec, .slice SA sl.length sc] 36)) w.heap.size lv nv cv T (.slice EA er.length ec) (.slice SA sl.length sc)) := heap_alloc_new w _
  have HBW : Hid (Below w.heap.size w (w.alloc (.cells #[lv, nv, cv, .int .i64 T, .slice EA er.length ec, .slice SA sl.length sc] 36))) := (Below.refl _ _).alloc (Nat.le_refl _) _
  obtain ⟨wa, hwa⟩ : ∃ wa, w.alloc (.cells #[lv, nv, cv, .int .i64 T, .slice EA er.length ec, .slice SA sl.length sc] 36) = wa := ⟨_, rfl⟩
  rw [hwa] at HX HBW ⊢
  have hvl : w.heap.size ≤ wa.heap.size := HBW.out.size
  obtain ⟨vb, hvb⟩ : ∃ b, w.heap.size = b := ⟨_, rfl⟩
  rw [hvb] at HX ⊢
  clear hwa hvb
  go_loopw [7, 8] (fun o i wr => HdRel at' T er sl at'.length wa o i wr) (fun _ i _ => at'.length - (intOf i).toNat)
  case atStart => exact ⟨0, none, 0, Nat.zero_le _, rfl, rfl, World.ownsRow_nil _ _ _ _, Below.refl _ _⟩
  case round =>
    obtain ⟨k, D, dc, hk, rfl, rfl, HO, HB⟩ := hrel
    have hsz := HB.out.size
    have HXR := Lib.hid (HX.out.below HB.out)
    have hvr : vb < wr.heap.size := HXR.out.lt
    have HWR := Lib.hid (HBW.out.trans (HB.out.mono hvl))
    by_cases hlt : k < at'.length
    · have hlt' : (k : Int) < (at'.length : Int) := by omega
      have k0 : (0 : Int) ≤ (k : Int) := by omega
      obtain ⟨ab, ao, hAA, hab, ca⟩ := (HA.out.below HWR.out).int_at hlt hlt
      have hab2 : ab < wr.heap.size := by have := HWR.out.size; omega
      have c3 := HXR.out.c3
      have c4 := HXR.out.c4
      have c5 := HXR.out.c5
      have hba := HBD.out _ (List.getElem_mem hlt)
      have HAG : Hid (at'.getD k 0 = at'[k]) := by show _ = _; simp [hlt]
      obtain ⟨a, ha⟩ : ∃ a, at'[k] = a := ⟨_, rfl⟩
      rw [ha] at ca hba HAG
      obtain ⟨a0, a1⟩ := hba
      have HSN := Lib.hid (hrdT_succ at' T er sl k)
      subst hAA
      clear ha
      by_cases hs : k < sl.length
      · by_cases he : k < er.length
        · obtain ⟨sb, so, hSA, hsb, cs⟩ := (HS.out.below HWR.out).int_at hs hs
          have hsb2 : sb < wr.heap.size := by have := HWR.out.size; omega
          have hs' : (k : Int) < (sl.length : Int) := by omega
          have hr1 : 0 ≤ sl[k] % 100 ∧ sl[k] % 100 < 100 := by omega
          have hSK : slkH sl k = 1 + sl[k] % 100 := by unfold slkH; rw [if_pos hs]; simp [hs]
          obtain ⟨s, hsv⟩ : ∃ s, sl[k] = s := ⟨_, rfl⟩
          rw [hsv] at cs hr1 hSK
          have HM1 := Lib.hid (fun W => Mod_at s 100 (s % 100) rfl (by decide) (by decide) W)
          obtain ⟨r1, hr1e⟩ : ∃ r, s % 100 = r := ⟨_, rfl⟩
          rw [hr1e] at hr1 hSK HM1
          obtain ⟨r10, r11⟩ := hr1
          subst hSA
          clear hsv hr1e
          obtain ⟨eb, eo, hEA, heb, ce⟩ := (HE.out.below HWR.out).int_at he he
          have heb2 : eb < wr.heap.size := by have := HWR.out.size; omega
          have he' : (k : Int) < (er.length : Int) := by omega
          have hWG : wrgH er sl k = er[k] % (2 * (1 + r1) - 1) - ((1 + r1) - 1) := by unfold wrgH; rw [if_pos he, hSK]; simp [he]
          obtain ⟨e1, hev⟩ : ∃ e1, er[k] = e1 := ⟨_, rfl⟩
          rw [hev] at ce hWG
          have hr2a := Int.emod_nonneg e1 (show 2 * (1 + r1) - 1 ≠ 0 by omega)
          have hr2b := Int.emod_lt_of_pos e1 (show 0 < 2 * (1 + r1) - 1 by omega)
          have HM2 := Lib.hid (fun W => Mod_at e1 (2 * (1 + r1) - 1) (e1 % (2 * (1 + r1) - 1)) rfl (by omega) (by omega) W)
          obtain ⟨r2, hr2e⟩ : ∃ r, e1 % (2 * (1 + r1) - 1) = r := ⟨_, rfl⟩
          rw [hr2e] at hr2a hr2b hWG HM2
          subst hEA
          clear hev hr2e
          rw [hSK, hWG, HAG.out, HR3.out] at HSN
          clear hs he hSK hWG
          go_wp2_with (first | (go_at_call 28; with_reducible refine (HM1.out _).mono ?_; rintro e w' ⟨rfl, rfl⟩) | (go_at_call 28; with_reducible refine (HM2.out _).mono ?_; rintro e w' ⟨rfl, rfl⟩))
          obtain ⟨S, hSe⟩ : ∃ S, 1 + r1 = S := ⟨_, rfl⟩
          have hS12 : 1 ≤ S ∧ S ≤ 100 := by omega
          have hr2c : r2 < 2 * S - 1 := by omega
          rw [hSe] at HSN ⊢
          obtain ⟨g, hge⟩ : ∃ g, r2 - (S - 1) = g := ⟨_, rfl⟩
          have hg12 : -100 < g ∧ g < 100 := by omega
          obtain ⟨g10, g11⟩ := hg12
          rw [hge] at HSN ⊢
          clear hge hr2a hr2b hr2c HM2
          clear hSe HM1 r10 r11
          have u1 : IntKind.i64.wrap (a + r3) = a + r3 := IntWalk.i64_in _ (by omega)
          have u2 : IntKind.i64.wrap (a + r3 + g) = a + r3 + g := IntWalk.i64_in _ (by omega)
          go_region_law (first
            | ((go_simp; go_at_call 28; refine (HM3.out _).mono ?_; rintro e w' ⟨rfl, rfl⟩))
            | ((refine step_append_lies _ rfl (.tmp 51) (.tmp 65) 26 rfl wa.heap.size 41 i0 (.agg #[.int .i64 0, .int .i64 0, .int .i64 0]) 3 24 Tryz.underlying26 hi hz0 hz1 hz2 rfl (by decide) (.slice D k dc) k (trCells (hrdT at' T er sl k)) (by rfl) (own_below HO.out (Nat.le_refl _) (by (repeat (first | exact Below.refl _ _ | assumption | refine below_drewN ?_ _ | refine Below.drew ?_ | refine Below.setCell ?_ (by first | omega | (simp; done) | (simp; omega)) _ | refine Below.alloc ?_ (by first | omega | (simp; done) | (simp; omega)) _)))) _ 1 1 (arvC ((k : Int), a + r3 + g, S)) (by rfl) rfl (World.news_of_block (heap_alloc_new wr _)) (arvC_one _) (by omega) (by unfold maxLen; omega) (by omega) (by simp; omega) (wr.heap.size + 1) (by simp) ?_; intro g' cap w6 hown6 hg6 hat6 hlt6; have z6 := hg6.size; (try simp at z6))))
          all_goals
            go_wp2_with fail
            go_roundw
            case rel =>
              refine ⟨k + 1, some ⟨g', 0, none⟩, cap, by omega, by go_num, rfl, Lib.hid ?_, Lib.hid ((HB.out.trans (Below.mono (by (repeat (first | exact Below.refl _ _ | assumption | refine below_drewN ?_ _ | refine Below.drew ?_ | refine Below.setCell ?_ (by first | omega | (simp; done) | (simp; omega)) _ | refine Below.alloc ?_ (by first | omega | (simp; done) | (simp; omega)) _))) hsz)).grown hg6 (by simp; omega) (fun g h => (own_lt HO.out h).1))⟩
              rw [HSN.out, trCells_snoc]
              exact hown6
            case measure => simp [intOf]; omega
        · obtain ⟨sb, so, hSA, hsb, cs⟩ := (HS.out.below HWR.out).int_at hs hs
          have hsb2 : sb < wr.heap.size := by have := HWR.out.size; omega
          have hs' : (k : Int) < (sl.length : Int) := by omega
          have hr1 : 0 ≤ sl[k] % 100 ∧ sl[k] % 100 < 100 := by omega
          have hSK : slkH sl k = 1 + sl[k] % 100 := by unfold slkH; rw [if_pos hs]; simp [hs]
          obtain ⟨s, hsv⟩ : ∃ s, sl[k] = s := ⟨_, rfl⟩
          rw [hsv] at cs hr1 hSK
          have HM1 := Lib.hid (fun W => Mod_at s 100 (s % 100) rfl (by decide) (by decide) W)
          obtain ⟨r1, hr1e⟩ : ∃ r, s % 100 = r := ⟨_, rfl⟩
          rw [hr1e] at hr1 hSK HM1
          obtain ⟨r10, r11⟩ := hr1
          subst hSA
          clear hsv hr1e
          have he' : ¬ (k : Int) < (er.length : Int) := by omega
          have hWG : wrgH er sl k = 0 := by unfold wrgH; rw [if_neg he]
          rw [hSK, hWG, HAG.out, HR3.out] at HSN
          clear hs he hSK hWG
          go_wp2_with (first | (go_at_call 28; with_reducible refine (HM1.out _).mono ?_; rintro e w' ⟨rfl, rfl⟩))
          obtain ⟨S, hSe⟩ : ∃ S, 1 + r1 = S := ⟨_, rfl⟩
          have hS12 : 1 ≤ S ∧ S ≤ 100 := by omega
          rw [hSe] at HSN ⊢
          clear hSe HM1 r10 r11
          rw [Int.add_zero] at HSN
          have u1 : IntKind.i64.wrap (a + r3) = a + r3 := IntWalk.i64_in _ (by omega)
          go_region_law (first
            | ((go_simp; go_at_call 28; refine (HM3.out _).mono ?_; rintro e w' ⟨rfl, rfl⟩))
            | ((refine step_append_lies _ rfl (.tmp 51) (.tmp 65) 26 rfl wa.heap.size 41 i0 (.agg #[.int .i64 0, .int .i64 0, .int .i64 0]) 3 24 Tryz.underlying26 hi hz0 hz1 hz2 rfl (by decide) (.slice D k dc) k (trCells (hrdT at' T er sl k)) (by rfl) (own_below HO.out (Nat.le_refl _) (by (repeat (first | exact Below.refl _ _ | assumption | refine below_drewN ?_ _ | refine Below.drew ?_ | refine Below.setCell ?_ (by first | omega | (simp; done) | (simp; omega)) _ | refine Below.alloc ?_ (by first | omega | (simp; done) | (simp; omega)) _)))) _ 1 1 (arvC ((k : Int), a + r3, S)) (by rfl) rfl (World.news_of_block (heap_alloc_new wr _)) (arvC_one _) (by omega) (by unfold maxLen; omega) (by omega) (by simp; omega) (wr.heap.size + 1) (by simp) ?_; intro g' cap w6 hown6 hg6 hat6 hlt6; have z6 := hg6.size; (try simp at z6))))
          all_goals
            go_wp2_with fail
            go_roundw
            case rel =>
              refine ⟨k + 1, some ⟨g', 0, none⟩, cap, by omega, by go_num, rfl, Lib.hid ?_, Lib.hid ((HB.out.trans (Below.mono (by (repeat (first | exact Below.refl _ _ | assumption | refine below_drewN ?_ _ | refine Below.drew ?_ | refine Below.setCell ?_ (by first | omega | (simp; done) | (simp; omega)) _ | refine Below.alloc ?_ (by first | omega | (simp; done) | (simp; omega)) _))) hsz)).grown hg6 (by simp; omega) (fun g h => (own_lt HO.out h).1))⟩
              rw [HSN.out, trCells_snoc]
              exact hown6
            case measure => simp [intOf]; omega
      · by_cases he : k < er.length
        · have hs' : ¬ (k : Int) < (sl.length : Int) := by omega
          have hSK : slkH sl k = 1 := by unfold slkH; rw [if_neg hs]
          obtain ⟨eb, eo, hEA, heb, ce⟩ := (HE.out.below HWR.out).int_at he he
          have heb2 : eb < wr.heap.size := by have := HWR.out.size; omega
          have he' : (k : Int) < (er.length : Int) := by omega
          have hWG : wrgH er sl k = 0 := by unfold wrgH; rw [if_pos he, hSK]; simp
          obtain ⟨e1, hev⟩ : ∃ e1, er[k] = e1 := ⟨_, rfl⟩
          rw [hev] at ce
          have HM2 := Lib.hid (fun W => Mod_at e1 1 0 (by omega) (by decide) (by decide) W)
          subst hEA
          clear hev
          rw [hSK, hWG, HAG.out, HR3.out] at HSN
          clear hs he hSK hWG
          go_wp2_with (first | (go_at_call 28; with_reducible refine (HM2.out _).mono ?_; rintro e w' ⟨rfl, rfl⟩))
          rw [Int.add_zero] at HSN
          have u1 : IntKind.i64.wrap (a + r3) = a + r3 := IntWalk.i64_in _ (by omega)
          go_region_law (first
            | ((go_simp; go_at_call 28; refine (HM3.out _).mono ?_; rintro e w' ⟨rfl, rfl⟩))
            | ((refine step_append_lies _ rfl (.tmp 51) (.tmp 65) 26 rfl wa.heap.size 41 i0 (.agg #[.int .i64 0, .int .i64 0, .int .i64 0]) 3 24 Tryz.underlying26 hi hz0 hz1 hz2 rfl (by decide) (.slice D k dc) k (trCells (hrdT at' T er sl k)) (by rfl) (own_below HO.out (Nat.le_refl _) (by (repeat (first | exact Below.refl _ _ | assumption | refine below_drewN ?_ _ | refine Below.drew ?_ | refine Below.setCell ?_ (by first | omega | (simp; done) | (simp; omega)) _ | refine Below.alloc ?_ (by first | omega | (simp; done) | (simp; omega)) _)))) _ 1 1 (arvC ((k : Int), a + r3, 1)) (by rfl) rfl (World.news_of_block (heap_alloc_new wr _)) (arvC_one _) (by omega) (by unfold maxLen; omega) (by omega) (by simp; omega) (wr.heap.size + 1) (by simp) ?_; intro g' cap w6 hown6 hg6 hat6 hlt6; have z6 := hg6.size; (try simp at z6))))
          all_goals
            go_wp2_with fail
            go_roundw
            case rel =>
              refine ⟨k + 1, some ⟨g', 0, none⟩, cap, by omega, by go_num, rfl, Lib.hid ?_, Lib.hid ((HB.out.trans (Below.mono (by (repeat (first | exact Below.refl _ _ | assumption | refine below_drewN ?_ _ | refine Below.drew ?_ | refine Below.setCell ?_ (by first | omega | (simp; done) | (simp; omega)) _ | refine Below.alloc ?_ (by first | omega | (simp; done) | (simp; omega)) _))) hsz)).grown hg6 (by simp; omega) (fun g h => (own_lt HO.out h).1))⟩
              rw [HSN.out, trCells_snoc]
              exact hown6
            case measure => simp [intOf]; omega
        · have hs' : ¬ (k : Int) < (sl.length : Int) := by omega
          have hSK : slkH sl k = 1 := by unfold slkH; rw [if_neg hs]
          have he' : ¬ (k : Int) < (er.length : Int) := by omega
          have hWG : wrgH er sl k = 0 := by unfold wrgH; rw [if_neg he]
          rw [hSK, hWG, HAG.out, HR3.out] at HSN
          clear hs he hSK hWG
          go_wp2_with fail
          rw [Int.add_zero] at HSN
          have u1 : IntKind.i64.wrap (a + r3) = a + r3 := IntWalk.i64_in _ (by omega)
          go_region_law (first
            | ((go_simp; go_at_call 28; refine (HM3.out _).mono ?_; rintro e w' ⟨rfl, rfl⟩))
            | ((refine step_append_lies _ rfl (.tmp 51) (.tmp 65) 26 rfl wa.heap.size 41 i0 (.agg #[.int .i64 0, .int .i64 0, .int .i64 0]) 3 24 Tryz.underlying26 hi hz0 hz1 hz2 rfl (by decide) (.slice D k dc) k (trCells (hrdT at' T er sl k)) (by rfl) (own_below HO.out (Nat.le_refl _) (by (repeat (first | exact Below.refl _ _ | assumption | refine below_drewN ?_ _ | refine Below.drew ?_ | refine Below.setCell ?_ (by first | omega | (simp; done) | (simp; omega)) _ | refine Below.alloc ?_ (by first | omega | (simp; done) | (simp; omega)) _)))) _ 1 1 (arvC ((k : Int), a + r3, 1)) (by rfl) rfl (World.news_of_block (heap_alloc_new wr _)) (arvC_one _) (by omega) (by unfold maxLen; omega) (by omega) (by simp; omega) (wr.heap.size + 1) (by simp) ?_; intro g' cap w6 hown6 hg6 hat6 hlt6; have z6 := hg6.size; (try simp at z6))))
          all_goals
            go_wp2_with fail
            go_roundw
            case rel =>
              refine ⟨k + 1, some ⟨g', 0, none⟩, cap, by omega, by go_num, rfl, Lib.hid ?_, Lib.hid ((HB.out.trans (Below.mono (by (repeat (first | exact Below.refl _ _ | assumption | refine below_drewN ?_ _ | refine Below.drew ?_ | refine Below.setCell ?_ (by first | omega | (simp; done) | (simp; omega)) _ | refine Below.alloc ?_ (by first | omega | (simp; done) | (simp; omega)) _))) hsz)).grown hg6 (by simp; omega) (fun g h => (own_lt HO.out h).1))⟩
              rw [HSN.out, trCells_snoc]
              exact hown6
            case measure => simp [intOf]; omega
    · obtain rfl : k = at'.length := by omega
      go_wp2_with fail
      go_ret
      refine ⟨D, dc, by rw [HL.out]; rfl, ?_, HWR.out⟩
      rw [HL.out]
      exact own_le HO.out hvl
end Go.Proofs.YtcclfhdglhbpcaaGreatDoor
