/-
  The map of maps of versions: what it holds, and how one more notice is put.
-/
import Derived.Test.YtmpbhngjkbidcaaGreatDoorW45
import Derived.Test.YtmpbhngjkbidcaaGreatDoorW37
import Derived.Test.YtmpbhngjkbidcaaGreatDoorW36
import Derived.Test.YtmpbhngjkbidcaaGreatDoorW35
import Derived.Deep.AppendLies
namespace Go.Proofs.YtmpbhngjkbidcaaGreatDoor
open Go.RowKit Al

/-- What a block is: nothing of these; the map of a version; the row of a text of a version. -/
abbrev Tags := Nat → Option (Int × Option (List UInt8))
/-- A map holds, for each version, a map that holds, for each text, who signed it: all in memory of the call's own, apart from each other. -/
structure Ver (w : World) (B mb n : Nat) (L : List It) (f : Int → Option Value) (g : Int → List UInt8 → Option Value) (tg : Tags) : Prop where
  map : ∃ c, MapI w mb n c f
  inn : ∀ v u, f v = some u → ∃ b, u = .map (some b) ∧ tg b = some (v, none) ∧ B ≤ b ∧ MapS w b n (textsV L v).length (g v)
  non : ∀ v, f v = none → textsV L v = []
  rng : ∀ v u, f v = some u → 1 ≤ v ∧ v ≤ 1000
  row : ∀ v s u, g v s = some u → s ∈ textsV L v ∧ (∃ A c, u = .slice A (sgs L v s).length c) ∧ w.ownsRow B 3 1 u (sgs L v s).length (ints (sgs L v s)) ∧ ∀ i, u.ownBlock = some i → tg i = some (v, some s)
  dom : ∀ v s, g v s = none → s ∉ textsV L v
  mbB : mb < B
  le : B ≤ w.heap.size
section
variable {w : World} {B mb n : Nat} {L : List It} {f : Int → Option Value} {g : Int → List UInt8 → Option Value} {tg : Tags}
theorem Ver.made (w : World) : Ver (w.alloc (.map #[] 0)) (w.heap.size + 1) w.heap.size 0 [] (fun _ => none) (fun _ _ => none) (fun _ => none) :=
  ⟨⟨0, MapK.made _ _ w⟩, fun v u h => (nomatch h), fun v _ => rfl, fun v u h => (nomatch h), fun v s u h => (nomatch h), fun v s _ h => (nomatch h), Nat.lt_succ_self _, by simp⟩
theorem Ver.mono (h : Ver w B mb n L f g tg) {m : Nat} (hm : n ≤ m) : Ver w B mb m L f g tg := by
  obtain ⟨c, hc⟩ := h.map
  refine ⟨⟨c, hc.mono hm⟩, fun v u hu => ?_, h.non, h.rng, h.row, h.dom, h.mbB, h.le⟩
  obtain ⟨b, e, h1, h2, h3⟩ := h.inn v u hu
  exact ⟨b, e, h1, h2, h3.mono hm⟩
theorem Ver.keep (h : Ver w B mb n L f g tg) {w' : World} {F : Nat → Prop} (k : Kp F w w') (h0 : ¬ F mb) (h1 : ∀ i t, i < w.heap.size → tg i = some t → ¬ F i) : Ver w' B mb n L f g tg := by
  obtain ⟨c, hc⟩ := h.map
  refine ⟨⟨c, hc.keep k h0⟩, fun v u hu => ?_, h.non, h.rng, fun v s u hu => ?_, h.dom, h.mbB, Nat.le_trans h.le k.size⟩
  · obtain ⟨b, e, h2, h3, h4⟩ := h.inn v u hu
    exact ⟨b, e, h2, h3, h4.keep k (h1 b _ h4.lt h2)⟩
  · obtain ⟨a1, a2, a3, a4⟩ := h.row v s u hu
    exact ⟨a1, a2, own_keep a3 k (fun i hi => h1 i _ (own_lt a3 hi).2 (a4 i hi)), a4⟩
theorem Ver.below (h : Ver w B mb n L f g tg) {w' : World} (hb : Below w.heap.size w w') : Ver w' B mb n L f g tg :=
  h.keep (F := fun _ => False) (Kp.of_below hb) (fun e => e) (fun _ _ _ _ e => e)
/-- What stands for a version: its map, or nil. -/
theorem Ver.cur (h : Ver w B mb n L f g tg) {v : Int} {b : Nat} (_ : f v = some (.map (some b))) (s : List UInt8) :
    ∃ A c, (g v s).getD (.slice none 0 0) = .slice A (sgs L v s).length c ∧ w.ownsRow B 3 1 (.slice A (sgs L v s).length c) (sgs L v s).length (ints (sgs L v s)) ∧ ∀ i, (Value.slice A (sgs L v s).length c).ownBlock = some i → tg i = some (v, some s) := by
  cases hg : g v s with
  | none =>
    have e := sgs_none (h.dom v s hg)
    exact ⟨none, 0, by rw [e]; rfl, by rw [e]; exact World.ownsRow_nil _ _ _ _, fun i hi => (nomatch hi)⟩
  | some u =>
    obtain ⟨_, ⟨A, c, e⟩, h2, h3⟩ := h.row v s u hg
    exact ⟨A, c, e, by rw [← e]; exact h2, by rw [← e]; exact h3⟩
/-- A map for a version that had none. -/
theorem Ver.opened (h : Ver w B mb n L f g tg) {w1 w3 : World} (h1 : Below w.heap.size w w1) {v : Int} (hv : f v = none) (hr : 1 ≤ v ∧ v ≤ 1000)
    (hm : ∃ c, MapI w3 mb (n + 1) c (fun k => if k = v then some (.map (some w1.heap.size)) else f k)) (hg : (w1.alloc (.map #[] 0)).grownBy w3 (some mb)) :
    Ver w3 B mb (n + 1) L (fun k => if k = v then some (.map (some w1.heap.size)) else f k) g (fun i => if i = w1.heap.size then some (v, none) else tg i) := by
  have s1 := h1.size
  have K : Kp (fun i => i = mb) w w3 := ((Kp.of_below h1).then_below ((Below.refl _ w1).alloc (Nat.le_refl _) _)).grown hg (fun k hk => .inl (by cases hk; rfl))
  have he := h.non v hv
  have hB := h.mbB
  have hle := h.le
  refine ⟨hm, fun v' u hu => ?_, fun v' hn => ?_, fun v' u hu => ?_, fun v' s u hu => ?_, h.dom, h.mbB, Nat.le_trans h.le K.size⟩
  · by_cases e : v' = v
    · subst e
      rw [if_pos rfl] at hu
      cases hu
      refine ⟨w1.heap.size, rfl, if_pos rfl, by omega, ?_⟩
      have hgv : g v' = fun _ => none := by
        funext s
        cases hs : g v' s with
        | none => rfl
        | some u =>
          have := (h.row v' s u hs).1
          rw [he] at this
          cases this
      rw [he, hgv]
      exact ((MapK.made _ _ w1).keep ((Kp.refl (fun i => i = mb) _).grown hg (fun k hk => .inl (by cases hk; rfl))) (by omega)).mono (Nat.zero_le _)
    · rw [if_neg e] at hu
      obtain ⟨b, e2, h3, h4, h5⟩ := h.inn v' u hu
      have := h5.lt
      exact ⟨b, e2, by show (if b = w1.heap.size then _ else _) = _; rw [if_neg (by omega)]; exact h3, h4, (h5.keep K (by omega)).mono (Nat.le_succ n)⟩
  · by_cases e : v' = v
    · rw [if_pos e] at hn; cases hn
    · rw [if_neg e] at hn
      exact h.non v' hn
  · by_cases e : v' = v
    · rw [e]; exact hr
    · rw [if_neg e] at hu
      exact h.rng v' u hu
  · obtain ⟨a1, a2, a3, a4⟩ := h.row v' s u hu
    refine ⟨a1, a2, own_keep a3 K (fun i hi e => ?_), fun i hi => ?_⟩
    · have := (own_lt a3 hi).1
      omega
    · have := (own_lt a3 hi).2
      show (if i = w1.heap.size then _ else _) = _
      rw [if_neg (by omega)]
      exact a4 i hi
/-- One more notice: the row of its text has grown, the map of its version is written. -/
theorem Ver.put (h : Ver w B mb n L f g tg) {w5 w6 : World} {x : It} {b : Nat} {A : Option Addr} {c : Nat} {nv : Value}
    (hf : f x.n.a.ver = some (.map (some b))) (hcur : w.ownsRow B 3 1 (.slice A (sgs L x.n.a.ver x.tx).length c) (sgs L x.n.a.ver x.tx).length (ints (sgs L x.n.a.ver x.tx)))
    (htg : ∀ i, (Value.slice A (sgs L x.n.a.ver x.tx).length c).ownBlock = some i → tg i = some (x.n.a.ver, some x.tx))
    (K5 : Kp (fun i => (Value.slice A (sgs L x.n.a.ver x.tx).length c).ownBlock = some i) w w5)
    (hsh : ∃ A c, nv = .slice A (uni (sgs L x.n.a.ver x.tx) x.who).length c)
    (hown : w5.ownsRow B 3 1 nv (uni (sgs L x.n.a.ver x.tx) x.who).length (ints (uni (sgs L x.n.a.ver x.tx) x.who)))
    (hat : ∀ i, nv.ownBlock = some i → (Value.slice A (sgs L x.n.a.ver x.tx).length c).ownBlock = some i ∨ w.heap.size ≤ i)
    (hm : MapS w6 b (n + 1) (if (g x.n.a.ver x.tx).isSome then (textsV L x.n.a.ver).length else (textsV L x.n.a.ver).length + 1) (fun k => if k = x.tx then some nv else g x.n.a.ver k)) (hg : w5.grownBy w6 (some b)) :
    Ver w6 B mb (n + 1) (L ++ [x]) f (fun v s => if v = x.n.a.ver ∧ s = x.tx then some nv else g v s) (fun i => if nv.ownBlock = some i then some (x.n.a.ver, some x.tx) else tg i) := by
  have hB := h.mbB
  have hle := h.le
  obtain ⟨b', eb, hb1, hb2, hb3⟩ := h.inn _ _ hf
  obtain rfl : b = b' := by cases eb; rfl
  have hbl := hb3.lt
  have s5 := K5.size
  have K6 : Kp (fun i => i = b) w5 w6 := (Kp.refl _ _).grown hg (fun k hk => .inl (by cases hk; rfl))
  -- what a tag names stays
  have tag_ : ∀ i t, i < w.heap.size → tg i = some t → (if nv.ownBlock = some i then some (x.n.a.ver, some x.tx) else tg i) = some t := by
    intro i t hi ht
    split
    · rename_i e
      rcases hat i e with h1 | h1
      · rw [← htg i h1]; exact ht
      · omega
    · exact ht
  have far_ : ∀ i t, tg i = some t → t ≠ (x.n.a.ver, some x.tx) → (Value.slice A (sgs L x.n.a.ver x.tx).length c).ownBlock ≠ some i := by
    intro i t ht hne e
    rw [htg i e] at ht
    exact hne (Option.some.inj ht).symm
  refine ⟨?_, fun v u hu => ?_, fun v hn => ?_, h.rng, fun v s u hu => ?_, fun v s hn => ?_, h.mbB, by have := K6.size; omega⟩
  · obtain ⟨c0, hc0⟩ := h.map
    exact ⟨c0, ((hc0.keep K5 (fun e => by have := (own_lt hcur e).1; omega)).keep K6 (by omega)).mono (Nat.le_succ n)⟩
  · obtain ⟨b2, e2, h3, h4, h5⟩ := h.inn v u hu
    refine ⟨b2, e2, tag_ b2 _ h5.lt h3, h4, ?_⟩
    rw [textsV_snoc]
    by_cases e : v = x.n.a.ver
    · subst e
      obtain rfl : b = b2 := by rw [hf] at hu; cases hu; cases e2; rfl
      have ht : (addT x.n.a.ver (textsV L x.n.a.ver) x).length = if (g x.n.a.ver x.tx).isSome then (textsV L x.n.a.ver).length else (textsV L x.n.a.ver).length + 1 := by
        unfold addT
        rw [if_pos rfl]
        cases hgx : g x.n.a.ver x.tx with
        | none =>
          rw [if_neg (h.dom _ _ hgx)]
          simp
        | some u2 =>
          rw [if_pos (h.row _ _ _ hgx).1]
          simp
      have hfun : (fun s => if x.n.a.ver = x.n.a.ver ∧ s = x.tx then some nv else g x.n.a.ver s) = fun k => if k = x.tx then some nv else g x.n.a.ver k := by
        funext s
        simp
      rw [ht, hfun]
      exact hm
    · have ht : addT v (textsV L v) x = textsV L v := by unfold addT; rw [if_neg (fun h => e h.symm)]
      have hfun : (fun s => if v = x.n.a.ver ∧ s = x.tx then some nv else g v s) = g v := by
        funext s
        rw [if_neg (fun h => e h.1)]
      have hbb : b2 ≠ b := by
        intro e3
        rw [e3, hb1] at h3
        exact e (congrArg Prod.fst (Option.some.inj h3)).symm
      rw [ht, hfun]
      exact ((h5.keep K5 (far_ b2 _ h3 (by simp))).keep K6 hbb).mono (Nat.le_succ n)
  · rw [textsV_snoc]
    have e : ¬ x.n.a.ver = v := fun e => by rw [← e, hf] at hn; cases hn
    unfold addT
    rw [if_neg e]
    exact h.non v hn
  · rw [textsV_snoc, sgs_snoc]
    by_cases e : v = x.n.a.ver ∧ s = x.tx
    · obtain ⟨rfl, rfl⟩ := e
      rw [if_pos ⟨rfl, rfl⟩] at hu
      cases hu
      have hs : addS x.n.a.ver x.tx (sgs L x.n.a.ver x.tx) x = uni (sgs L x.n.a.ver x.tx) x.who := by unfold addS; rw [if_pos ⟨rfl, rfl⟩]
      rw [hs]
      refine ⟨mem_addT.2 (.inr ⟨rfl, rfl⟩), hsh, own_keep hown K6 (fun i hi e => ?_), fun i hi => if_pos hi⟩
      rcases hat i hi with h1 | h1
      · have := htg i h1
        rw [e, hb1] at this
        cases this
      · omega
    · rw [if_neg e] at hu
      obtain ⟨a1, a2, a3, a4⟩ := h.row v s u hu
      have hs : addS v s (sgs L v s) x = sgs L v s := by unfold addS; rw [if_neg (fun h => e ⟨h.1.symm, h.2.symm⟩)]
      rw [hs]
      refine ⟨mem_addT.2 (.inl a1), a2, own_keep (own_keep a3 K5 (fun i hi => far_ i _ (a4 i hi) (fun h => e ?_))) K6 (fun i hi e3 => ?_), fun i hi => tag_ i _ (own_lt a3 hi).2 (a4 i hi)⟩
      · injection h with h1 h2
        injection h2 with h2
        exact ⟨h1, h2⟩
      · have := a4 i hi
        rw [e3, hb1] at this
        cases this
  · rw [textsV_snoc, mem_addT]
    by_cases e : v = x.n.a.ver ∧ s = x.tx
    · rw [if_pos e] at hn; cases hn
    · rw [if_neg e] at hn
      rintro (h1 | h1)
      · exact h.dom v s hn h1
      · exact e ⟨h1.1.symm, h1.2.symm⟩
end
end Go.Proofs.YtmpbhngjkbidcaaGreatDoor

/-
  The walk of versions: of each version the different alerts, by their texts, and who signed each one.
-/
namespace Go.Proofs.YtmpbhngjkbidcaaGreatDoor
open Go.RowKit Al
attribute [local go_sem ↓] Go.wp_at_zero Go.wp_at_succ

theorem zeroM (w : World) : (zeroValue 147).run Tryz.prog w = .ok (.map none) w := by kernel_rfl
theorem zeroI (w : World) : (zeroValue 32).run Tryz.prog w = .ok (.slice none 0 0) w := by kernel_rfl
theorem eqM_none (w : World) : (binOp BinOp.eql 147 (.map none) (.map none)).run Tryz.prog w = .ok (.bool true) w := by kernel_rfl
theorem eqM_some (b : Nat) (w : World) : (binOp BinOp.eql 147 (.map (some b)) (.map none)).run Tryz.prog w = .ok (.bool false) w := by kernel_rfl
theorem wf_ver {v : Int} (h0 : -9223372036854775808 ≤ v) (h1 : v ≤ 9223372036854775807) : (Lit.int .i64 v).wf = true := by
  unfold Lit.wf
  simp only [Bool.and_eq_true, decide_eq_true_eq]
  exact ⟨h0, h1⟩
theorem okA_ver {a : Alr} (h : okA a = true) : 1 ≤ a.ver ∧ a.ver ≤ 1000 := by
  unfold okA at h
  simp [inB] at h
  omega
theorem text_is (a : Alr) (A : Option Addr) (c : Nat) (s : ByteArray) (w : World) (hs : s = ⟨(textL a).toArray⟩) (hk : okA a = true) (h : AIn w a A c) (hr : Rdy w) :
    Calls Tryz.prog 53 #[a.val A c] w fun e w' => e = .returned (.string s) ∧ Below w.heap.size w w' :=
  hs ▸ text_ a A c _ w (okA_good hk) h.sl (Nat.le_refl _) hr.tab hr.big
def VerT (G : List It) (w : World) (e : Ending) (w' : World) : Prop :=
  ∃ (mb n : Nat) (f : Int → Option Value) (g : Int → List UInt8 → Option Value) (tg : Tags), e = .returned (.map (some mb)) ∧ Ver w' (mb + 1) mb n G f g tg ∧ w.heap.size ≤ mb ∧ n ≤ 2 * G.length ∧ Below w.heap.size w w'
def VsRel (w : World) (G : List It) (i : Value) (wr : World) : Prop :=
  ∃ (k n : Nat) (f : Int → Option Value) (g : Int → List UInt8 → Option Value) (tg : Tags), k ≤ G.length ∧ i = .int .i64 k ∧ n ≤ 2 * k ∧ Ver wr (w.heap.size + 1) w.heap.size n (G.take k) f g tg ∧ Below w.heap.size w wr
def VtRel (w4 : World) (B : Nat) (S0 : List Int) (ow : Option Nat) (who : List Int) (o i : Value) (wz : World) : Prop :=
  ∃ (j : Nat) (A : Option Addr) (c : Nat), j ≤ who.length ∧ i = .int .i64 j ∧ o = .slice A (uni S0 (who.take j)).length c ∧ wz.ownsRow B 3 1 (.slice A (uni S0 (who.take j)).length c) (uni S0 (who.take j)).length (ints (uni S0 (who.take j))) ∧ Kp (fun i => ow = some i) w4 wz ∧
    ∀ i, (Value.slice A (uni S0 (who.take j)).length c).ownBlock = some i → ow = some i ∨ w4.heap.size ≤ i
theorem who_at {x : It} {j : Nat} (hj : j < x.n.sg.length) {S0 : List Int} : uni S0 (x.who.take (j + 1)) = addI (uni S0 (x.who.take j)) x.n.sg[j].1 := by
  have hl : j < x.who.length := by unfold It.who; rw [List.length_map]; exact hj
  rw [List.take_succ_eq_append_getElem hl, uni_snoc]
  congr 1
  simp [It.who]
set_option maxRecDepth 100000 in
set_option maxHeartbeats 8000000 in
theorem versions_ (G : List It) (N : Option Addr) (nc : Nat) (w : World) (hL : Sl w w.heap.size 10 N G.length nc (itCells G)) (hI : ∀ x ∈ G, NIn w x.n x.A x.c x.S x.sc) (hok : ∀ x ∈ G, okA x.n.a = true) (hfew : ∀ x ∈ G, x.n.sg.length ≤ 8) (hlen : G.length ≤ 64) (hr : Rdy w) :
    Calls Tryz.prog 64 #[.slice N G.length nc] w (VerT G w) := by
  have HL := Lib.hid hL
  have HI := Lib.hid hI
  have HK := Lib.hid hok
  have HF := Lib.hid hfew
  have HT := Lib.hid hr
  obtain ⟨i0, hi, hz0, hz1, hz2⟩ := info_parts infoInt
  have hmm := @run_makeMap Tryz.prog
  clear hL hI hok hfew hr
  go_enter Tryz.func64, Tryz.ntmps64
  go_wp2_with fail
  go_loopw [14] (fun i wr => VsRel w G i wr) (fun i _ => G.length - (Go.RowKit.intOf i).toNat)
  case atStart => exact ⟨0, 0, _, _, _, Nat.zero_le _, rfl, Nat.le_refl _, Ver.made w, by (repeat (first | exact Below.refl _ _ | assumption | refine below_drewN ?_ _ | refine Below.drew ?_ | refine Below.setCell ?_ (by first | omega | (simp; done) | (simp; omega)) _ | refine Below.alloc ?_ (by first | omega | (simp; done) | (simp; omega)) _))⟩
  case round =>
    obtain ⟨k, n, f, g, tg, hk, rfl, hn, hV, hB⟩ := hrel
    have hsz := hB.size
    have HV := Lib.hid hV
    have HB := Lib.hid hB
    clear hV hB
    by_cases hlt : k < G.length
    · obtain ⟨b0, off, rfl, hb0, y0, y1, y2, y3, y4, y5, y6, y7, y8, y9⟩ := (HL.out.below HB.out).it_at hlt
      have j0 : (0 : Int) ≤ (k : Int) := by omega
      have j1 : (k : Int) < (G.length : Int) := by omega
      have hb2 : b0 < wr.heap.size := by omega
      have HX : Hid (G.take (k + 1) = G.take k ++ [G[k]]) := List.take_succ_eq_append_getElem hlt
      have HN := Lib.hid (HI.out G[k] (List.getElem_mem hlt))
      have HKx := Lib.hid (HK.out G[k] (List.getElem_mem hlt))
      have hfx := HF.out G[k] (List.getElem_mem hlt)
      have hfl : ∀ x ∈ G.take k, x.n.sg.length ≤ 8 := fun x hx => HF.out x (List.mem_of_mem_take hx)
      obtain ⟨x, hx⟩ : ∃ x, x = G[k] := ⟨_, rfl⟩
      rw [← hx] at y0 y1 y2 y3 y4 y5 y6 y7 y8 y9 HX HN HKx hfx
      clear hx
      obtain ⟨M, hM⟩ : ∃ M, M = G.take k := ⟨_, rfl⟩
      rw [← hM] at HX hfl
      have HV2 : Hid (Ver wr (w.heap.size + 1) w.heap.size n M f g tg) := by rw [hM]; exact HV.out
      have hMl : M.length ≤ 64 := by rw [hM, List.length_take]; omega
      clear hM HV
      obtain ⟨hv1, hv2⟩ := okA_ver HKx.out
      have hwf : (Lit.int .i64 x.n.a.ver).wf = true := wf_ver (by omega) (by omega)
      obtain ⟨s, hs⟩ : ∃ s : ByteArray, s = ⟨(textL x.n.a).toArray⟩ := ⟨_, rfl⟩
      have HS := Lib.hid hs
      have hsd : s.data.toList = x.tx := by rw [hs]; rfl
      have hss : s.size ≤ maxLen := by
        have h1 := textL_len (okA_good HKx.out)
        have h2 : s.size = (textL x.n.a).length := by rw [hs]; simp [ByteArray.size_mk']
        unfold maxLen
        omega
      have HSD := Lib.hid hsd
      have HA := Lib.hid (HN.out.al.below HB.out)
      have HTr := Lib.hid (HT.out.below HB.out)
      clear hs hsd
      go_wp2_with fail
      refine wp_region_bw2 (by kernel_rfl) (by kernel_rfl) (fun hbwc => ?_)
      repeat (go_big_quiet_step ((go_at_call 53; exact bwCall (text_is x.n.a x.A x.c s _ HS.out HKx.out (AIn.below (AIn.below HA.out (by (repeat (first | exact Below.refl _ _ | assumption | refine below_drewN ?_ _ | refine Below.drew ?_ | refine Below.setCell ?_ (by first | omega | (simp; done) | (simp; omega)) _ | refine Below.alloc ?_ (by first | omega | (simp; done) | (simp; omega)) _)))) (BW.below _)) (Rdy.below (Rdy.below HTr.out (by (repeat (first | exact Below.refl _ _ | assumption | refine below_drewN ?_ _ | refine Below.drew ?_ | refine Below.setCell ?_ (by first | omega | (simp; done) | (simp; omega)) _ | refine Below.alloc ?_ (by first | omega | (simp; done) | (simp; omega)) _)))) (BW.below _))))))
      refine wpQuiet_nil ?_
      clear hbwc
      intro w3 hb
      have HB3 : Hid (Below wr.heap.size wr w3) := (show Below wr.heap.size wr _ from by (repeat (first | exact Below.refl _ _ | assumption | refine below_drewN ?_ _ | refine Below.drew ?_ | refine Below.setCell ?_ (by first | omega | (simp; done) | (simp; omega)) _ | refine Below.alloc ?_ (by first | omega | (simp; done) | (simp; omega)) _))).trans (hb.mono (by simp))
      have z3 := hb.size
      simp at z3
      have v9 : w3.cell? ⟨wr.heap.size, 9, none⟩ = some (.slice x.S x.n.sg.length x.sc) := by rw [hb.cell (p := ⟨wr.heap.size, 9, none⟩) (by simp)]; simp [go_sem]
      clear hb
      have HV3 := Lib.hid (HV2.out.below HB3.out)
      obtain ⟨cc, hmap⟩ := HV3.out.map
      have hle := HV2.out.le
      have hlk := hmap.look keyLawI Tryz.underlying145 (zeroM w3) (Maps.keyOf_int_mk Tryz.underlying3 hwf)
      -- the map of the version, new or there
      have hstep : ∃ (f' : Int → Option Value) (tg' : Tags) (b n' : Nat) (w4 : World), Ver w4 (w.heap.size + 1) w.heap.size n' M f' g tg' ∧ f' x.n.a.ver = some (.map (some b)) ∧ n' ≤ 2 * k + 1 ∧ Below w.heap.size w3 w4 ∧ w4.cell? ⟨wr.heap.size, 9, none⟩ = some (.slice x.S x.n.sg.length x.sc) ∧
          (f x.n.a.ver = none ∧ (Instr.mapUpdate 145 (.map (some w.heap.size)) (.int .i64 x.n.a.ver) (.map (some w3.heap.size))).run Tryz.prog (w3.alloc (.map #[] 0)) = .ok () w4 ∨ f x.n.a.ver = some (.map (some b)) ∧ w4 = w3) := by
        cases hf : f x.n.a.ver with
        | none =>
          obtain ⟨w4, hrun, hm4, hg4⟩ := (hmap.keep (F := fun _ => False) (Kp.of_below ((Below.refl _ w3).alloc (Nat.le_refl _) (.map #[] 0))) (fun e => e)).put keyLawI Tryz.underlying145 (by unfold maxLen; omega) (Maps.keyOf_int_mk Tryz.underlying3 hwf) (intLit_inj _) (isKeyI hwf) (.map (some w3.heap.size))
          refine ⟨_, _, w3.heap.size, n + 1, w4, HV3.out.opened (Below.refl _ _) hf ⟨hv1, hv2⟩ ⟨_, hm4⟩ hg4, if_pos rfl, by omega, ?_, ?_, .inl ⟨rfl, hrun⟩⟩
          · exact ((Kp.of_below ((Below.refl _ w3).alloc (Nat.le_refl _) (.map #[] 0))).grown (F := fun i => i = w.heap.size) hg4 (fun i hi => .inl (by cases hi; rfl))).below (by omega) (fun i hi => by omega)
          · rw [← v9]
            refine (hg4.cell_far ⟨wr.heap.size, 9, none⟩ (by simp; omega) (fun e => by have := Option.some.inj e; simp at this; omega)).trans ?_
            exact (Below.refl _ w3).alloc (Nat.le_refl _) (.map #[] 0) |>.cell (p := ⟨wr.heap.size, 9, none⟩) (by show wr.heap.size < w3.heap.size; omega)
        | some u =>
          obtain ⟨b, rfl, _⟩ := HV3.out.inn _ _ hf
          exact ⟨f, tg, b, n, w3, HV3.out, hf, by omega, Below.refl _ _, v9, .inr ⟨rfl, rfl⟩⟩
      obtain ⟨f', tg', b, n', w4, hV4, hf', hn', hB4, v94, hway⟩ := hstep
      have HV4 := Lib.hid hV4
      obtain ⟨cc4, hmap4⟩ := hV4.map
      have lo := hmap4.look keyLawI Tryz.underlying145 (zeroM w4) (Maps.keyOf_int_mk Tryz.underlying3 hwf)
      rw [hf'] at lo
      obtain ⟨b', eb, hb1, hb2, hb3⟩ := hV4.inn _ _ hf'
      obtain rfl : b = b' := by cases eb; rfl
      have li := hb3.look keyLaw Tryz.underlying147 (zeroI w4) (WideMaps.keyOf_string_mk Tryz.underlying9 hss)
      rw [HSD.out] at li
      obtain ⟨A, c, hcur, hown, htg⟩ := hV4.cur hf' x.tx
      rw [hcur] at li
      simp only [Option.getD_some] at lo
      have HB4 : Hid (Below w.heap.size w w4) := HB.out.trans ((HB3.out.mono hsz).trans hB4)
      clear hV4 hmap hmap4 eb v9
      have HOW := Lib.hid hown
      have HTG := Lib.hid htg
      have HHB : Hid (tg' b = some (x.n.a.ver, none) ∧ w.heap.size + 1 ≤ b ∧ MapS w4 b n' (textsV M x.n.a.ver).length (g x.n.a.ver)) := ⟨hb1, hb2, hb3⟩
      have HNz := Lib.hid (HN.out.sl)
      have z4 := hB4.size
      have hS0l : (sgs M x.n.a.ver x.tx).length ≤ 64 * 8 := Nat.le_trans (sgs_len M hfl) (Nat.mul_le_mul_right 8 hMl)
      have hbl : b < w4.heap.size := hb3.lt
      clear hcur hown htg hb1 hb2 hb3 hB4
      obtain ⟨S0, hS0⟩ : ∃ S0, S0 = sgs M x.n.a.ver x.tx := ⟨_, rfl⟩
      rw [← hS0] at HOW HTG li hS0l
      have HS0 := Lib.hid hS0
      clear hS0
      have hwl : x.who.length = x.n.sg.length := by simp [It.who]
      rcases hway with ⟨hf, hrun⟩ | ⟨hf, hw4⟩
      all_goals
        rw [hf] at hlk
        simp only [Option.getD_some, Option.getD_none] at hlk
        have hq1 := eqM_none w3
        have hq2 := eqM_some b w4
        (try subst hw4)
        go_wp2_with fail
        go_loopw [8, 39] (fun o i wz => VtRel w4 (w.heap.size + 1) S0 (Value.slice A S0.length c).ownBlock x.who o i wz) (fun _ i _ => x.n.sg.length - (Go.RowKit.intOf i).toNat)
        case atStart => exact ⟨0, A, c, Nat.zero_le _, rfl, rfl, HOW.out, Kp.refl _ _, fun i hi => .inl hi⟩
        case round =>
          obtain ⟨j, A', c', hj, rfl, rfl, hown, hKp, hat⟩ := hrel
          have HO2 := Lib.hid hown
          have HK2 := Lib.hid hKp
          have HAT := Lib.hid hat
          have zz := hKp.size
          have HBz : Hid (Below w.heap.size w wr) := HB4.out.trans (hKp.below (by omega) (fun i hi => by have := (own_lt HOW.out hi).1; omega))
          clear hown hKp hat
          by_cases hjl : j < x.n.sg.length
          · obtain ⟨sb, so, e, hsb, s0, s1⟩ := (HNz.out.below HBz.out).key_at hjl
            rw [e]
            have m0 : (0 : Int) ≤ (j : Int) := by omega
            have m1 : (j : Int) < (x.n.sg.length : Int) := by omega
            have hsb2 : sb < wr.heap.size := by omega
            have hUN := who_at hjl (S0 := S0)
            have hUl := uni_len (x.who.take j) S0
            rw [List.length_take] at hUl
            obtain ⟨U, hU⟩ : ∃ U, U = uni S0 (x.who.take j) := ⟨_, rfl⟩
            rw [← hU] at HO2 HAT hUN hUl
            rw [← hU]
            clear hU
            have hUl2 : U.length ≤ 1024 := by omega
            cases hbb : decide (x.n.sg[j].1 ∈ U) with
            | true =>
              have HBB := Lib.hid hbb
              have HU2 : Hid (uni S0 (x.who.take (j + 1)) = U) := by
                show _ = _
                rw [hUN]
                unfold addI
                rw [if_pos (of_decide_eq_true hbb)]
              clear hbb hUN
              go_wp2_with (go_at_call 108; refine (slContains_is U A' c' x.n.sg[j].1 true _ HBB.out ((Sl.of_own HO2.out).below (by (repeat (first | exact Below.refl _ _ | assumption | refine below_drewN ?_ _ | refine Below.drew ?_ | refine Below.setCell ?_ (by first | omega | (simp; done) | (simp; omega)) _ | refine Below.alloc ?_ (by first | omega | (simp; done) | (simp; omega)) _))) |>.more (by first | omega | (simp; done) | (simp; omega)))).mono ?_; rintro e2 w5 ⟨rfl, hb5⟩; have HB5 := Lib.hid ((show Below wr.heap.size wr _ from by (repeat (first | exact Below.refl _ _ | assumption | refine below_drewN ?_ _ | refine Below.drew ?_ | refine Below.setCell ?_ (by first | omega | (simp; done) | (simp; omega)) _ | refine Below.alloc ?_ (by first | omega | (simp; done) | (simp; omega)) _))).trans (hb5.mono (by first | omega | (simp; done) | (simp; omega)))); clear hb5)
              go_roundw
              case rel => exact ⟨j + 1, A', c', by omega, by go_num, by rw [HU2.out], by rw [HU2.out]; exact own_below HO2.out (Nat.le_refl _) HB5.out, HK2.out.then_below HB5.out, by rw [HU2.out]; exact HAT.out⟩
              case measure => simp [Go.RowKit.intOf]; omega
            | false =>
              have HBB := Lib.hid hbb
              have HU2 : Hid (uni S0 (x.who.take (j + 1)) = U ++ [x.n.sg[j].1]) := by
                show _ = _
                rw [hUN]
                unfold addI
                rw [if_neg (of_decide_eq_false hbb)]
              clear hbb hUN
              go_wp2_with (first
                | (go_at_call 108; refine (slContains_is U A' c' x.n.sg[j].1 false _ HBB.out ((Sl.of_own HO2.out).below (by (repeat (first | exact Below.refl _ _ | assumption | refine below_drewN ?_ _ | refine Below.drew ?_ | refine Below.setCell ?_ (by first | omega | (simp; done) | (simp; omega)) _ | refine Below.alloc ?_ (by first | omega | (simp; done) | (simp; omega)) _))) |>.more (by first | omega | (simp; done) | (simp; omega)))).mono ?_; rintro e2 w5 ⟨rfl, hb5⟩; have z5 := hb5.size; (try simp at z5); have d0 : w5.cell? ⟨wr.heap.size, 0, none⟩ = some (.int .i64 x.n.sg[j].1) := (hb5.cell (p := ⟨wr.heap.size, 0, none⟩) (by simp)).trans (by simp [go_sem]); have HB5 := Lib.hid ((show Below wr.heap.size wr _ from by (repeat (first | exact Below.refl _ _ | assumption | refine below_drewN ?_ _ | refine Below.drew ?_ | refine Below.setCell ?_ (by first | omega | (simp; done) | (simp; omega)) _ | refine Below.alloc ?_ (by first | omega | (simp; done) | (simp; omega)) _))).trans (hb5.mono (by first | omega | (simp; done) | (simp; omega)))); clear hb5)
                | (at_builtin; refine wpList_append_lies _ rfl _ _ 32 rfl (w.heap.size + 1) 3 i0 (.int .i64 0) 1 8 Tryz.underlying32 hi hz0 hz1 hz2 rfl (by decide) (.slice A' U.length c') U.length (ints U) rfl (own_below HO2.out (Nat.le_refl _) (by repeat (first | exact Below.refl _ _ | exact (HB5).out | refine below_drewN ?_ _ | refine Below.drew ?_ | refine Below.setCell ?_ (by first | omega | (simp; done) | (simp; omega)) _ | refine Below.alloc ?_ (by first | omega | (simp; done) | (simp; omega)) _))) _ 1 1 [.int .i64 x.n.sg[j].1] rfl rfl (World.news_of_block (heap_alloc_new w5 _)) (by intro u hu; rw [List.mem_singleton.1 hu]; rfl) (by decide) (by unfold maxLen; omega) (by omega) (by simp; omega) _ rfl ?_; intro g5 cap w6 hown5 hg5 hat5 hlt5))
              go_roundw
              case rel =>
                refine ⟨j + 1, some ⟨g5, 0, none⟩, cap, by omega, by go_num, by rw [HU2.out, List.length_append]; rfl, ?_, ?_, fun i hi => ?_⟩
                · rw [HU2.out, List.length_append, show ints (U ++ [x.n.sg[j].1]) = ints U ++ [.int .i64 x.n.sg[j].1] by simp [ints]]
                  exact hown5
                · exact (HK2.out.then_below (show Below wr.heap.size wr _ from (by repeat (first | exact Below.refl _ _ | exact (HB5).out | refine below_drewN ?_ _ | refine Below.drew ?_ | refine Below.setCell ?_ (by first | omega | (simp; done) | (simp; omega)) _ | refine Below.alloc ?_ (by first | omega | (simp; done) | (simp; omega)) _)))).grown hg5 (fun i hi => HAT.out i hi)
                · cases hi
                  rcases hat5 with h1 | h1
                  · exact HAT.out g5 h1
                  · right
                    rw [h1]
                    simp
                    omega
              case measure => simp [Go.RowKit.intOf]; omega
          · obtain rfl : j = x.n.sg.length := by omega
            have hfin : x.who.take x.n.sg.length = x.who := List.take_of_length_le (by omega)
            rw [hfin] at HO2 HAT
            rw [hfin]
            obtain ⟨cz, hmz⟩ := HV4.out.map
            have hmz2 := hmz.keep HK2.out (fun e => by have := (own_lt HOW.out e).1; omega)
            have lo2 := hmz2.look keyLawI Tryz.underlying145 (zeroM wr) (Maps.keyOf_int_mk Tryz.underlying3 hwf)
            rw [hf'] at lo2
            simp only [Option.getD_some] at lo2
            obtain ⟨w6, hrun6, hm6, hg6⟩ := ((HHB.out.2.2).keep HK2.out (fun e => by have h1 := HTG.out b e; rw [HHB.out.1] at h1; cases h1)).put keyLaw Tryz.underlying147 (by unfold maxLen; omega) (WideMaps.keyOf_string_mk Tryz.underlying9 hss) (strLit_inj _) (isKeyS _) (.slice A' (uni S0 x.who).length c')
            rw [HSD.out] at hm6
            clear hmz hmz2 lo
            go_wp2_with fail
            go_roundw
            case rel =>
              have h0 := HS0.out
              subst h0
              refine ⟨k + 1, n' + 1, _, _, _, by omega, by go_num, by omega, by rw [HX.out]; exact HV4.out.put hf' HOW.out HTG.out HK2.out ⟨_, _, rfl⟩ HO2.out HAT.out hm6 hg6, ?_⟩
              exact HBz.out.grown hg6 (Nat.le_trans (by omega) HBz.out.size) (fun i hi => by cases hi; have := HHB.out.2.1; omega)
            case measure => simp [Go.RowKit.intOf]; omega
    · obtain rfl : k = G.length := by omega
      have h9 := HV.out
      rw [List.take_length] at h9
      go_wp2_with fail
      go_ret
      exact ⟨_, _, _, _, _, rfl, h9, Nat.le_refl _, hn, HB.out⟩
end Go.Proofs.YtmpbhngjkbidcaaGreatDoor
