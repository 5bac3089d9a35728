/-
  Maps from strings to lists of notices.
-/
import Derived.Test.YtmpbhngjkbidcaaGreatDoorW14
import Derived.Test.YtmpbhngjkbidcaaGreatDoorW22
import Derived.Test.YtmpbhngjkbidcaaGreatDoorW35
namespace Go.Proofs.YtmpbhngjkbidcaaGreatDoor
open Go.RowKit Al

theorem zeroNs (w : World) : (zeroValue 78).run Tryz.prog w = .ok (.slice none 0 0) w := by kernel_rfl
/-- Block mb is a map from strings to lists of notices: what f says of each key. -/
def MapNs (w : World) (mb n : Nat) (f : List UInt8 → Option Value) : Prop :=
  ∃ D : DataW Value, w.ownsMap Tryz.prog 9 MapR mb n D ∧ ∀ s : List UInt8, Maps.has D (.string s) = (f s).isSome ∧ ∀ v, f s = some v → D.atKey (.string s) (.held (.slice none 0 0)) = .held v
theorem MapNs.made (w : World) : MapNs (w.alloc (.map #[] 0)) w.heap.size 0 (fun _ => none) := by
  refine ⟨_, World.ownsMap_made w _ _ _, fun s => ⟨rfl, fun v h => by cases h⟩⟩
theorem MapNs.lt {w : World} {mb n : Nat} {f : List UInt8 → Option Value} (h : MapNs w mb n f) : mb < w.heap.size := by
  obtain ⟨D, h1, _⟩ := h
  exact h1.lt
theorem MapNs.keep {w w' : World} {mb n : Nat} {f : List UInt8 → Option Value} (h : MapNs w mb n f) {F : Nat → Prop} (k : Kp F w w') (hF : ¬ F mb) : MapNs w' mb n f := by
  have hlt := h.lt
  obtain ⟨D, ⟨es, clock, hb, r⟩, h2⟩ := h
  exact ⟨D, ⟨es, clock, (k.block mb hlt hF).trans hb, r⟩, h2⟩
theorem MapNs.look {w : World} {mb n : Nat} {f : List UInt8 → Option Value} (h : MapNs w mb n f) {s : ByteArray} (hs : s.size ≤ maxLen) :
    (Instr.lookup 138 (.map (some mb)) (.string s) false).run Tryz.prog w = .ok ((f s.data.toList).getD (.slice none 0 0)) w := by
  obtain ⟨D, h1, h2⟩ := h
  obtain ⟨hh, ha⟩ := h2 s.data.toList
  obtain ⟨v, ps, hrun, hv⟩ := h1.lookup keyLaw Tryz.underlying138 (zeroNs w) (zd := .held (.slice none 0 0)) (zp := []) rfl (WideMaps.keyOf_string_mk Tryz.underlying9 hs)
  rw [hrun]
  have hv' : DataW.held v = D.atKey (.string s.data.toList) (.held (.slice none 0 0)) := congrArg Prod.fst (Option.some.inj hv)
  cases hf : f s.data.toList with
  | none =>
    rw [hf] at hh
    rw [Maps.atKey_of_not_has hh] at hv'
    cases hv'
    rfl
  | some u =>
    rw [ha u hf] at hv'
    cases hv'
    rfl
theorem MapNs.put {w : World} {mb n : Nat} {f : List UInt8 → Option Value} (h : MapNs w mb n f) (hn : n < maxLen) {s : ByteArray} (hs : s.size ≤ maxLen) (v : Value) :
    ∃ w', (Instr.mapUpdate 138 (.map (some mb)) (.string s) v).run Tryz.prog w = .ok () w' ∧ MapNs w' mb (n + 1) (fun k => if k = s.data.toList then some v else f k) ∧ w.grownBy w' (some mb) := by
  obtain ⟨D, h1, h2⟩ := h
  obtain ⟨w', hrun, h3, h4⟩ := h1.update keyLaw Tryz.underlying138 hn (WideMaps.keyOf_string_mk Tryz.underlying9 hs) (val := v) (d := .held v) (ps := []) rfl
  refine ⟨w', hrun, ⟨_, h3, fun k => ?_⟩, h4⟩
  have hm := h1.isMap
  by_cases hk : k = s.data.toList
  · subst hk
    simp only [if_true]
    refine ⟨Maps.has_put_same hm (isKeyS _) _, fun u hu => ?_⟩
    cases hu
    exact Maps.atKey_put_same hm (isKeyS _) _ _
  · simp only [if_neg hk]
    have hne : (Lit.string k) ≠ .string s.data.toList := fun e => hk (by injection e)
    obtain ⟨hh, ha⟩ := h2 k
    refine ⟨by rw [Maps.has_put_other hne]; exact hh, fun u hu => ?_⟩
    rw [Maps.atKey_put_other hne]
    exact ha u hu
end Go.Proofs.YtmpbhngjkbidcaaGreatDoor

/-
  The groups of notices by event, in a map: how one more is put.
-/
namespace Go.Proofs.YtmpbhngjkbidcaaGreatDoor
open Go.RowKit Al

/-- The notices of an event. -/
def grp (L : List It) (s : List UInt8) : List It := L.filter fun x => decide (x.n.a.ev.data.toList = s)
theorem grp_snoc (L : List It) (x : It) (s : List UInt8) : grp (L ++ [x]) s = if x.n.a.ev.data.toList = s then grp L s ++ [x] else grp L s := by
  unfold grp
  rw [List.filter_append]
  by_cases h : x.n.a.ev.data.toList = s <;> simp [h]
/-- A map holds the notices of each event, in rows of the call's own, apart from each other. -/
structure Grp (wr : World) (B mb : Nat) (L : List It) (f : List UInt8 → Option Value) : Prop where
  map : MapNs wr mb L.length f
  row : ∀ s v, f s = some v → (∃ A c, v = .slice A (grp L s).length c) ∧ wr.ownsRow B 72 10 v (grp L s).length (itCells (grp L s))
  none_ : ∀ s, f s = none → grp L s = []
  some_ : ∀ s v, f s = some v → 0 < (grp L s).length
  apart : ∀ s t u v, f s = some u → f t = some v → s ≠ t → ∀ g, u.ownBlock = some g → v.ownBlock ≠ some g
  mbB : mb < B
theorem Grp.made (w : World) : Grp (w.alloc (.map #[] 0)) (w.heap.size + 1) w.heap.size [] (fun _ => none) :=
  ⟨MapNs.made w, fun _ _ h => (nomatch h), fun _ _ => rfl, fun _ _ h => (nomatch h), fun _ _ _ _ h => (nomatch h), Nat.lt_succ_self _⟩
theorem Grp.below {w w' : World} {B mb : Nat} {L : List It} {f : List UInt8 → Option Value} (h : Grp w B mb L f) (hb : Below w.heap.size w w') : Grp w' B mb L f :=
  ⟨h.map.keep (F := fun _ => False) (Kp.of_below hb) (fun e => e), fun s v hv => ⟨(h.row s v hv).1, own_below (h.row s v hv).2 (Nat.le_refl _) hb⟩, h.none_, h.some_, h.apart, h.mbB⟩
/-- What stands in the map for an event: its row, or nil. -/
theorem Grp.cur {w : World} {B mb : Nat} {L : List It} {f : List UInt8 → Option Value} (h : Grp w B mb L f) (s : List UInt8) :
    ∃ A c, (f s).getD (.slice none 0 0) = .slice A (grp L s).length c ∧ w.ownsRow B 72 10 (.slice A (grp L s).length c) (grp L s).length (itCells (grp L s)) := by
  cases hf : f s with
  | none => exact ⟨none, 0, by rw [h.none_ s hf]; rfl, by rw [h.none_ s hf]; exact World.ownsRow_nil _ _ _ _⟩
  | some v =>
    obtain ⟨⟨A, c, e⟩, hr⟩ := h.row s v hf
    exact ⟨A, c, e, by rw [← e]; exact hr⟩
/-- One more notice: the row of its event grows, the map is written. -/
theorem Grp.step {w w4 w5 w6 : World} {B mb : Nat} {L : List It} {f : List UInt8 → Option Value} {x : It} {A : Option Addr} {c g cap : Nat} (h : Grp w B mb L f) (h4 : Below w.heap.size w w4)
    (hcur : (f x.n.a.ev.data.toList).getD (.slice none 0 0) = .slice A (grp L x.n.a.ev.data.toList).length c)
    (hown : w5.ownsRow B 72 10 (.slice (some ⟨g, 0, none⟩) ((grp L x.n.a.ev.data.toList).length + 1) cap) ((grp L x.n.a.ev.data.toList).length + 1) (itCells (grp L x.n.a.ev.data.toList) ++ x.lst))
    (hg : w4.grownBy w5 (Value.slice A (grp L x.n.a.ev.data.toList).length c).ownBlock) (hat : (Value.slice A (grp L x.n.a.ev.data.toList).length c).ownBlock = some g ∨ g = w4.heap.size)
    (hm6 : MapNs w6 mb (L.length + 1) (fun k => if k = x.n.a.ev.data.toList then some (.slice (some ⟨g, 0, none⟩) ((grp L x.n.a.ev.data.toList).length + 1) cap) else f k)) (hg6 : w5.grownBy w6 (some mb)) :
    Grp w6 B mb (L ++ [x]) (fun k => if k = x.n.a.ev.data.toList then some (.slice (some ⟨g, 0, none⟩) ((grp L x.n.a.ev.data.toList).length + 1) cap) else f k) := by
  have s4 := h4.size
  have K5 : Kp (fun i => (Value.slice A (grp L x.n.a.ev.data.toList).length c).ownBlock = some i) w w5 := (Kp.of_below h4).grown hg (fun k hk => .inl hk)
  have K6 : Kp (fun i => i = mb) w5 w6 := (Kp.refl _ _).grown hg6 (fun k hk => .inl (by cases hk; rfl))
  have far : ∀ t v, f t = some v → t ≠ x.n.a.ev.data.toList → ∀ i, v.ownBlock = some i → (Value.slice A (grp L x.n.a.ev.data.toList).length c).ownBlock ≠ some i := by
    intro t v hv hne i hi
    cases hf : f x.n.a.ev.data.toList with
    | none =>
      rw [hf] at hcur
      have : Value.slice none 0 0 = Value.slice A (grp L x.n.a.ev.data.toList).length c := hcur
      rw [← this]
      intro e
      cases e
    | some u =>
      rw [hf] at hcur
      have e : u = Value.slice A (grp L x.n.a.ev.data.toList).length c := hcur
      rw [← e]
      exact h.apart t _ v u hv hf hne i hi
  have lt_ : ∀ t v, f t = some v → ∀ i, v.ownBlock = some i → B ≤ i ∧ i < w.heap.size := fun t v hv i hi => own_lt (h.row t v hv).2 hi
  refine ⟨by rw [List.length_append]; exact hm6, fun s v hv => ?_, fun s hs => ?_, fun s v hs => ?_, fun s t u v hu hv hne i hi => ?_, h.mbB⟩
  · by_cases e : s = x.n.a.ev.data.toList
    · subst e
      rw [if_pos rfl] at hv
      cases hv
      rw [grp_snoc, if_pos rfl, List.length_append, itCells_snoc]
      refine ⟨⟨_, _, rfl⟩, own_keep hown K6 (fun i hi f => ?_)⟩
      have := (own_lt hown hi).1
      have := h.mbB
      omega
    · rw [if_neg e] at hv
      rw [grp_snoc, if_neg (fun e2 => e e2.symm)]
      refine ⟨(h.row s v hv).1, own_keep (own_keep (h.row s v hv).2 K5 (fun i hi => far s v hv e i hi)) K6 (fun i hi f => ?_)⟩
      have := (lt_ s v hv i hi).1
      have := h.mbB
      omega
  · by_cases e : s = x.n.a.ev.data.toList
    · rw [if_pos e] at hs; cases hs
    · rw [if_neg e] at hs
      rw [grp_snoc, if_neg (fun e2 => e e2.symm)]
      exact h.none_ s hs
  · rw [grp_snoc]
    split
    · simp
    · rename_i e
      rw [if_neg (fun e2 => e e2.symm)] at hs
      exact h.some_ s v hs
  · by_cases es : s = x.n.a.ev.data.toList
    · have et : t ≠ x.n.a.ev.data.toList := fun e => hne (es.trans e.symm)
      rw [if_pos es] at hu
      rw [if_neg et] at hv
      cases hu
      cases hi
      intro e
      rcases hat with h1 | h1
      · exact far t v hv et g e h1
      · have := (lt_ t v hv g e).2
        omega
    · rw [if_neg es] at hu
      by_cases et : t = x.n.a.ev.data.toList
      · rw [if_pos et] at hv
        cases hv
        intro e
        cases e
        rcases hat with h1 | h1
        · exact far s u hu es g hi h1
        · have := (lt_ s u hu g hi).2
          omega
      · rw [if_neg et] at hv
        exact h.apart s t u v hu hv hne i hi
end Go.Proofs.YtmpbhngjkbidcaaGreatDoor

/-
  The walks of filtered, with the closures of events and of Settle.
-/
namespace Go.Proofs.YtmpbhngjkbidcaaGreatDoor
open Go.RowKit Al

/-- A roll that lies in a block of its own. -/
structure RolA (w : World) (g : Nat) (ks : List (Int × Int)) (q : Int) (K : Option Addr) (kc : Nat) : Prop where
  rin : Rin w ks K kc
  rok : rollOk ks q = true
  c0 : w.cell? ⟨g, 0, none⟩ = some (.slice K ks.length kc)
  c1 : w.cell? ⟨g, 1, none⟩ = some (.int .i64 q)
  lt : g < w.heap.size
  rdy : Rdy w
theorem RolA.below {w w' : World} {g : Nat} {ks : List (Int × Int)} {q : Int} {K : Option Addr} {kc : Nat} (h : RolA w g ks q K kc) (hb : Below w.heap.size w w') : RolA w' g ks q K kc :=
  ⟨Rin.below h.rin hb, h.rok, (hb.cell (p := ⟨g, 0, none⟩) h.lt).trans h.c0, (hb.cell (p := ⟨g, 1, none⟩) h.lt).trans h.c1, Nat.lt_of_lt_of_le h.lt hb.size, h.rdy.below hb⟩

set_option maxRecDepth 100000 in
theorem evs1_ (ks : List (Int × Int)) (q : Int) (K : Option Addr) (kc g : Nat) (x : It) (v : Bool) (w : World) (hv : (noticeE ks q x.n == 0) = v) (hr : RolA w g ks q K kc) (hn : NIn w x.n x.A x.c x.S x.sc) :
    Calls Tryz.prog 104 #[x.n.val x.A x.c x.S x.sc, .pointer (some ⟨g, 0, none⟩)] w fun e w' => e = .returned (.bool v) ∧ Below w.heap.size w w' := by
  have c0 := hr.c0
  have c1 := hr.c1
  have hlt := hr.lt
  have hlt2 : g < w.heap.size + 1 := by omega
  have HR := Lib.hid hr
  have HN := Lib.hid hn
  obtain ⟨u, hu⟩ : ∃ u, noticeE ks q x.n = u := ⟨_, rfl⟩
  have HU := Lib.hid hu
  rw [hu] at hv
  clear hr hn hu
  go_enter Tryz.func104, Tryz.ntmps104
  go_wp2_with (go_at_call 49; refine (rollCheck_is ks q K kc x.n x.A x.c x.S x.sc u _ HU.out (HR.out.rin.below (by (repeat (first | exact Below.refl _ _ | assumption | refine below_drewN ?_ _ | refine Below.drew ?_ | refine Below.setCell ?_ (by first | omega | (simp; done) | (simp; omega)) _ | refine Below.alloc ?_ (by first | omega | (simp; done) | (simp; omega)) _)))) HR.out.rok (HN.out.below (by (repeat (first | exact Below.refl _ _ | assumption | refine below_drewN ?_ _ | refine Below.drew ?_ | refine Below.setCell ?_ (by first | omega | (simp; done) | (simp; omega)) _ | refine Below.alloc ?_ (by first | omega | (simp; done) | (simp; omega)) _)))) (HR.out.rdy.below (by (repeat (first | exact Below.refl _ _ | assumption | refine below_drewN ?_ _ | refine Below.drew ?_ | refine Below.setCell ?_ (by first | omega | (simp; done) | (simp; omega)) _ | refine Below.alloc ?_ (by first | omega | (simp; done) | (simp; omega)) _))))).mono ?_; rintro e w3 ⟨rfl, hb3⟩; have H3 := Lib.hid ((show Below w.heap.size w _ from (by repeat (first | exact Below.refl _ _ | assumption | refine below_drewN ?_ _ | refine Below.drew ?_ | refine Below.setCell ?_ (by first | omega | (simp; done) | (simp; omega)) _ | refine Below.alloc ?_ (by first | omega | (simp; done) | (simp; omega)) _))).trans (hb3.mono (by first | omega | (simp; done) | (simp; omega)))); clear hb3)
  go_ret
  exact ⟨ret_bool (by first | exact hv | simp [← hv]), H3.out⟩
set_option maxRecDepth 100000 in
theorem stl1_ (x : It) (v : Bool) (w : World) (hv : x.n.a.wd = v) :
    Calls Tryz.prog 63 #[x.n.val x.A x.c x.S x.sc] w fun e w' => e = .returned (.bool v) ∧ Below w.heap.size w w' := by
  subst hv
  go_enter Tryz.func63, Tryz.ntmps63
  go_wp2_with fail
  go_ret
  exact ⟨rfl, (by repeat (first | exact Below.refl _ _ | assumption | refine below_drewN ?_ _ | refine Below.drew ?_ | refine Below.setCell ?_ (by first | omega | (simp; done) | (simp; omega)) _ | refine Below.alloc ?_ (by first | omega | (simp; done) | (simp; omega)) _))⟩

set_option maxRecDepth 100000 in
set_option maxHeartbeats 4000000 in
theorem filtEv_ (ks : List (Int × Int)) (q : Int) (K : Option Addr) (kc g : Nat) (L : List It) (N : Option Addr) (nc : Nat) (w : World) (hL : Sl w w.heap.size 10 N L.length nc (itCells L)) (hI : ∀ x ∈ L, NIn w x.n x.A x.c x.S x.sc) (hlen : L.length ≤ 1048576) (hr : RolA w g ks q K kc) :
    Calls Tryz.prog 62 #[.slice N L.length nc, .func (.func 104) #[] #[.pointer (some ⟨g, 0, none⟩)]] w (OwnIts (L.filter fun x => noticeE ks q x.n == 0) w) := by
  obtain ⟨i0, hi, hz0, hz1, hz2⟩ := info_parts infoNtc
  have HL := Lib.hid hL
  have HI := Lib.hid hI
  have HR := Lib.hid hr
  clear hr
  clear hL hI
  go_enter Tryz.func62, Tryz.ntmps62
  go_wp2_with fail
  go_loopw [5, 10] (fun o i wr => FlRel w w.heap.size L (fun x => noticeE ks q x.n == 0) o i wr) (fun _ i _ => L.length - (intOf i).toNat)
  case atStart => exact ⟨0, none, 0, Nat.zero_le _, rfl, rfl, World.ownsRow_nil _ _ _ _, Below.refl _ _⟩
  case round =>
    obtain ⟨k, A, c, hk, rfl, rfl, hown, hB⟩ := hrel
    have hsz := hB.size
    have HB := Lib.hid hB
    have HO := Lib.hid hown
    clear hB hown
    by_cases hlt : k < L.length
    · obtain ⟨b, off, rfl, hb, y0, y1, y2, y3, y4, y5, y6, y7, y8, y9⟩ := (HL.out.below HB.out).it_at hlt
      have i0' : (0 : Int) ≤ (k : Int) := by omega
      have i1' : (k : Int) < (L.length : Int) := by omega
      have hb2 : b < wr.heap.size := by omega
      have hll := flL_len (fun x => noticeE ks q x.n == 0) L k
      have HN := Lib.hid (HI.out L[k] (List.getElem_mem hlt))
      obtain ⟨b0, hb0⟩ : ∃ b0, (fun x : It => noticeE ks q x.n == 0) L[k] = b0 := ⟨_, rfl⟩
      have HV := Lib.hid hb0
      cases b0 with
      | true =>
        have HX := Lib.hid (flL_yes (p := fun x => noticeE ks q x.n == 0) hlt HV.out)
        obtain ⟨fl, hfl⟩ : ∃ fl, fl = flL (fun x => noticeE ks q x.n == 0) L k := ⟨_, rfl⟩
        rw [← hfl] at hll HO
        have HFL := Lib.hid hfl
        have hfs : (flL (fun x => noticeE ks q x.n == 0) L k).length = fl.length := by rw [hfl]
        rw [hfs]
        obtain ⟨x, hx⟩ : ∃ x, x = L[k] := ⟨_, rfl⟩
        rw [← hx] at y0 y1 y2 y3 y4 y5 y6 y7 y8 y9 HN HV
        have HXX := Lib.hid hx
        clear hb0 hfl hfs hx
        go_wp2_with (first
          | (go_at_call 104; refine (evs1_ ks q K kc g x true _ HV.out (HR.out.below (Below.trans HB.out (by (repeat (first | exact Below.refl _ _ | assumption | refine below_drewN ?_ _ | refine Below.drew ?_ | refine Below.setCell ?_ (by first | omega | (simp; done) | (simp; omega)) _ | refine Below.alloc ?_ (by first | omega | (simp; done) | (simp; omega)) _))))) (HN.out.below (Below.trans HB.out (by (repeat (first | exact Below.refl _ _ | assumption | refine below_drewN ?_ _ | refine Below.drew ?_ | refine Below.setCell ?_ (by first | omega | (simp; done) | (simp; omega)) _ | refine Below.alloc ?_ (by first | omega | (simp; done) | (simp; omega)) _)))))).mono ?_; rintro e w3 ⟨rfl, hb3⟩; obtain ⟨hcw3, hfw3⟩ := bcell hb3; have hz3 := hb3.size; (try simp at hz3); have HB3 := Lib.hid ((show Below wr.heap.size wr _ from (by repeat (first | exact Below.refl _ _ | assumption | refine below_drewN ?_ _ | refine Below.drew ?_ | refine Below.setCell ?_ (by first | omega | (simp; done) | (simp; omega)) _ | refine Below.alloc ?_ (by first | omega | (simp; done) | (simp; omega)) _))).trans (hb3.mono (by first | omega | (simp; done) | (simp; omega)))); clear hb3; have l0 : wr.heap.size < w3.heap.size := (by omega))
          | (at_builtin; refine wpList_append_lies _ rfl _ _ 78 rfl w.heap.size 72 i0 (.agg #[.string ⟨#[]⟩, .int .i64 0, .int .i64 0, .int .i64 0, .int .i64 0, .int .i64 0, .slice none 0 0, .bool false, .int .i64 0, .slice none 0 0]) 10 120 Tryz.underlying78 hi hz0 hz1 hz2 rfl (by decide) (.slice A fl.length c) fl.length (itCells fl) rfl (own_below HO.out (Nat.le_refl _) (by repeat (first | exact Below.refl _ _ | exact (HB3).out | refine below_drewN ?_ _ | refine Below.drew ?_ | refine Below.setCell ?_ (by first | omega | (simp; done) | (simp; omega)) _ | refine Below.alloc ?_ (by first | omega | (simp; done) | (simp; omega)) _))) _ 1 1 x.lst rfl rfl (World.news_of_block (heap_alloc_new w3 _)) (ntL_one _ _ _ _ _ _) (by decide) (by unfold maxLen; omega) (by omega) (by simp; omega) _ rfl ?_; intro g5 cap w5 hown5 hg5 hat5 hlt5))
        go_roundw
        case rel =>
          have e1 := HFL.out
          have e2 := HXX.out
          subst e1 e2
          exact fl_step hlt HX.out hown5 (HB.out.trans (Below.mono (by repeat (first | exact Below.refl _ _ | exact (HB3).out | refine below_drewN ?_ _ | refine Below.drew ?_ | refine Below.setCell ?_ (by first | omega | (simp; done) | (simp; omega)) _ | refine Below.alloc ?_ (by first | omega | (simp; done) | (simp; omega)) _)) hsz)) (by simp; omega) hg5 (fun g hg => own_base HO.out hg)
        case measure => simp [intOf]; omega
      | false =>
        have HX := Lib.hid (flL_no (p := fun x => noticeE ks q x.n == 0) hlt HV.out)
        obtain ⟨x, hx⟩ : ∃ x, x = L[k] := ⟨_, rfl⟩
        rw [← hx] at y0 y1 y2 y3 y4 y5 y6 y7 y8 y9 HN HV
        clear hb0 hx
        go_wp2_with (go_at_call 104; refine (evs1_ ks q K kc g x false _ HV.out (HR.out.below (Below.trans HB.out (by (repeat (first | exact Below.refl _ _ | assumption | refine below_drewN ?_ _ | refine Below.drew ?_ | refine Below.setCell ?_ (by first | omega | (simp; done) | (simp; omega)) _ | refine Below.alloc ?_ (by first | omega | (simp; done) | (simp; omega)) _))))) (HN.out.below (Below.trans HB.out (by (repeat (first | exact Below.refl _ _ | assumption | refine below_drewN ?_ _ | refine Below.drew ?_ | refine Below.setCell ?_ (by first | omega | (simp; done) | (simp; omega)) _ | refine Below.alloc ?_ (by first | omega | (simp; done) | (simp; omega)) _)))))).mono ?_; rintro e w3 ⟨rfl, hb3⟩; obtain ⟨hcw3, hfw3⟩ := bcell hb3; have hz3 := hb3.size; (try simp at hz3); have HB3 := Lib.hid ((show Below wr.heap.size wr _ from (by repeat (first | exact Below.refl _ _ | assumption | refine below_drewN ?_ _ | refine Below.drew ?_ | refine Below.setCell ?_ (by first | omega | (simp; done) | (simp; omega)) _ | refine Below.alloc ?_ (by first | omega | (simp; done) | (simp; omega)) _))).trans (hb3.mono (by first | omega | (simp; done) | (simp; omega)))); clear hb3; have l0 : wr.heap.size < w3.heap.size := (by omega))
        go_roundw
        case rel =>
          refine ⟨k + 1, A, c, by omega, ?_, by go_num, ?_, HB.out.trans (HB3.out.mono hsz)⟩
          · rw [HX.out]
          · rw [HX.out]
            exact own_below HO.out (Nat.le_refl _) HB3.out
        case measure => simp [intOf]; omega
    · obtain rfl : k = L.length := by omega
      rw [flL_end] at *
      go_wp2_with fail
      go_ret
      exact ⟨A, c, rfl, HO.out, HB.out⟩

set_option maxRecDepth 100000 in
set_option maxHeartbeats 4000000 in
theorem filtWd_ (L : List It) (N : Option Addr) (nc : Nat) (w : World) (hL : Sl w w.heap.size 10 N L.length nc (itCells L)) (hI : ∀ x ∈ L, NIn w x.n x.A x.c x.S x.sc) (hlen : L.length ≤ 1048576) :
    Calls Tryz.prog 62 #[.slice N L.length nc, .func (.func 63) #[] #[]] w (OwnIts (L.filter fun x => x.n.a.wd) w) := by
  obtain ⟨i0, hi, hz0, hz1, hz2⟩ := info_parts infoNtc
  have HL := Lib.hid hL
  have HI := Lib.hid hI
  clear hL hI
  go_enter Tryz.func62, Tryz.ntmps62
  go_wp2_with fail
  go_loopw [5, 10] (fun o i wr => FlRel w w.heap.size L (fun x => x.n.a.wd) o i wr) (fun _ i _ => L.length - (intOf i).toNat)
  case atStart => exact ⟨0, none, 0, Nat.zero_le _, rfl, rfl, World.ownsRow_nil _ _ _ _, Below.refl _ _⟩
  case round =>
    obtain ⟨k, A, c, hk, rfl, rfl, hown, hB⟩ := hrel
    have hsz := hB.size
    have HB := Lib.hid hB
    have HO := Lib.hid hown
    clear hB hown
    by_cases hlt : k < L.length
    · obtain ⟨b, off, rfl, hb, y0, y1, y2, y3, y4, y5, y6, y7, y8, y9⟩ := (HL.out.below HB.out).it_at hlt
      have i0' : (0 : Int) ≤ (k : Int) := by omega
      have i1' : (k : Int) < (L.length : Int) := by omega
      have hb2 : b < wr.heap.size := by omega
      have hll := flL_len (fun x => x.n.a.wd) L k
      have HN := Lib.hid (HI.out L[k] (List.getElem_mem hlt))
      obtain ⟨b0, hb0⟩ : ∃ b0, (fun x : It => x.n.a.wd) L[k] = b0 := ⟨_, rfl⟩
      have HV := Lib.hid hb0
      cases b0 with
      | true =>
        have HX := Lib.hid (flL_yes (p := fun x => x.n.a.wd) hlt HV.out)
        obtain ⟨fl, hfl⟩ : ∃ fl, fl = flL (fun x => x.n.a.wd) L k := ⟨_, rfl⟩
        rw [← hfl] at hll HO
        have HFL := Lib.hid hfl
        have hfs : (flL (fun x => x.n.a.wd) L k).length = fl.length := by rw [hfl]
        rw [hfs]
        obtain ⟨x, hx⟩ : ∃ x, x = L[k] := ⟨_, rfl⟩
        rw [← hx] at y0 y1 y2 y3 y4 y5 y6 y7 y8 y9 HN HV
        have HXX := Lib.hid hx
        clear hb0 hfl hfs hx
        go_wp2_with (first
          | (go_at_call 63; refine (stl1_ x true _ HV.out).mono ?_; rintro e w3 ⟨rfl, hb3⟩; obtain ⟨hcw3, hfw3⟩ := bcell hb3; have hz3 := hb3.size; (try simp at hz3); have HB3 := Lib.hid ((show Below wr.heap.size wr _ from (by repeat (first | exact Below.refl _ _ | assumption | refine below_drewN ?_ _ | refine Below.drew ?_ | refine Below.setCell ?_ (by first | omega | (simp; done) | (simp; omega)) _ | refine Below.alloc ?_ (by first | omega | (simp; done) | (simp; omega)) _))).trans (hb3.mono (by first | omega | (simp; done) | (simp; omega)))); clear hb3; have l0 : wr.heap.size < w3.heap.size := (by omega))
          | (at_builtin; refine wpList_append_lies _ rfl _ _ 78 rfl w.heap.size 72 i0 (.agg #[.string ⟨#[]⟩, .int .i64 0, .int .i64 0, .int .i64 0, .int .i64 0, .int .i64 0, .slice none 0 0, .bool false, .int .i64 0, .slice none 0 0]) 10 120 Tryz.underlying78 hi hz0 hz1 hz2 rfl (by decide) (.slice A fl.length c) fl.length (itCells fl) rfl (own_below HO.out (Nat.le_refl _) (by repeat (first | exact Below.refl _ _ | exact (HB3).out | refine below_drewN ?_ _ | refine Below.drew ?_ | refine Below.setCell ?_ (by first | omega | (simp; done) | (simp; omega)) _ | refine Below.alloc ?_ (by first | omega | (simp; done) | (simp; omega)) _))) _ 1 1 x.lst rfl rfl (World.news_of_block (heap_alloc_new w3 _)) (ntL_one _ _ _ _ _ _) (by decide) (by unfold maxLen; omega) (by omega) (by simp; omega) _ rfl ?_; intro g5 cap w5 hown5 hg5 hat5 hlt5))
        go_roundw
        case rel =>
          have e1 := HFL.out
          have e2 := HXX.out
          subst e1 e2
          exact fl_step hlt HX.out hown5 (HB.out.trans (Below.mono (by repeat (first | exact Below.refl _ _ | exact (HB3).out | refine below_drewN ?_ _ | refine Below.drew ?_ | refine Below.setCell ?_ (by first | omega | (simp; done) | (simp; omega)) _ | refine Below.alloc ?_ (by first | omega | (simp; done) | (simp; omega)) _)) hsz)) (by simp; omega) hg5 (fun g hg => own_base HO.out hg)
        case measure => simp [intOf]; omega
      | false =>
        have HX := Lib.hid (flL_no (p := fun x => x.n.a.wd) hlt HV.out)
        obtain ⟨x, hx⟩ : ∃ x, x = L[k] := ⟨_, rfl⟩
        rw [← hx] at y0 y1 y2 y3 y4 y5 y6 y7 y8 y9 HN HV
        clear hb0 hx
        go_wp2_with (go_at_call 63; refine (stl1_ x false _ HV.out).mono ?_; rintro e w3 ⟨rfl, hb3⟩; obtain ⟨hcw3, hfw3⟩ := bcell hb3; have hz3 := hb3.size; (try simp at hz3); have HB3 := Lib.hid ((show Below wr.heap.size wr _ from (by repeat (first | exact Below.refl _ _ | assumption | refine below_drewN ?_ _ | refine Below.drew ?_ | refine Below.setCell ?_ (by first | omega | (simp; done) | (simp; omega)) _ | refine Below.alloc ?_ (by first | omega | (simp; done) | (simp; omega)) _))).trans (hb3.mono (by first | omega | (simp; done) | (simp; omega)))); clear hb3; have l0 : wr.heap.size < w3.heap.size := (by omega))
        go_roundw
        case rel =>
          refine ⟨k + 1, A, c, by omega, ?_, by go_num, ?_, HB.out.trans (HB3.out.mono hsz)⟩
          · rw [HX.out]
          · rw [HX.out]
            exact own_below HO.out (Nat.le_refl _) HB3.out
        case measure => simp [intOf]; omega
    · obtain rfl : k = L.length := by omega
      rw [flL_end] at *
      go_wp2_with fail
      go_ret
      exact ⟨A, c, rfl, HO.out, HB.out⟩

end Go.Proofs.YtmpbhngjkbidcaaGreatDoor
