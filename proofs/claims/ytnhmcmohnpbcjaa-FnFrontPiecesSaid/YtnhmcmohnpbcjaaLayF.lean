/- The pieces of all parts of a course of a front: contracts of both sides. -/
import Derived.Test.YtnhmcmohnpbcjaaGaFn
import Derived.Test.YtnhmcmohnpbcjaaGaBonde
import Derived.Test.YtnhmcmohnpbcjaaGaStrs
import Derived.Test.YtnhmcmohnpbcjaaCls
namespace Go.Proofs.Ytnhmcmohnpbcjaa
open Go.RowKit
set_option linter.unusedSimpArgs false
set_option linter.unusedVariables false
set_option linter.unnecessarySimpa false

def lfT (f : Nat → UInt8) (ps : List (Int × Int)) : List ByteArray := ps.map fun p => mkS (layT f (p.2 - p.1))
def lfFit (f : Nat → UInt8) (ps : List (Int × Int)) : Bool := ps.all fun p => decide ((layT f (p.2 - p.1)).length ≤ 60)
/-- the code -/
def lfC (L C : Int) (os : List Opn) (nm : List UInt8) (cs : List Crs) (q : Int) : Int :=
  if validF L C os && bondB nm cs then (if inB q 0 (C - 1) then (if lfFit (ltrAt cs q) (partsI L q os) then 0 else 5) else 2) else 1
def lfL (L C : Int) (os : List Opn) (nm : List UInt8) (cs : List Crs) (q : Int) : List ByteArray := if lfC L C os nm cs q = 0 then lfT (ltrAt cs q) (partsI L q os) else []
theorem lfT_snoc (f : Nat → UInt8) (ps : List (Int × Int)) (k : Nat) (x y : Int) (hk : k < ps.length) (hp : ps.getD k (0, 0) = (x, y)) : lfT f (ps.take (k + 1)) = lfT f (ps.take k) ++ [mkS (layT f (y - x))] := by
  rw [List.getD_eq_getElem?_getD, List.getElem?_eq_getElem hk, Option.getD_some] at hp
  unfold lfT
  rw [List.take_succ_eq_append_getElem hk, List.map_append, hp]; rfl
theorem lfFit_snoc {f : Nat → UInt8} {ps : List (Int × Int)} {k : Nat} {x y : Int} (hk : k < ps.length) (hp : ps.getD k (0, 0) = (x, y)) (h : lfFit f (ps.take k) = true) (h2 : ¬ 60 < (layT f (y - x)).length) : lfFit f (ps.take (k + 1)) = true := by
  rw [List.getD_eq_getElem?_getD, List.getElem?_eq_getElem hk, Option.getD_some] at hp
  unfold lfFit at *
  rw [List.take_succ_eq_append_getElem hk, List.all_append, h, hp]
  simp; omega
theorem lfFit_bad {f : Nat → UInt8} {ps : List (Int × Int)} {k : Nat} {x y : Int} (hk : k < ps.length) (hp : ps.getD k (0, 0) = (x, y)) (h2 : 60 < (layT f (y - x)).length) : lfFit f ps = false := by
  rw [List.getD_eq_getElem?_getD, List.getElem?_eq_getElem hk, Option.getD_some] at hp
  unfold lfFit
  rw [List.all_eq_false]
  refine ⟨_, List.getElem_mem hk, ?_⟩
  rw [hp]
  simp; omega
theorem lfT_len (f : Nat → UInt8) (ps : List (Int × Int)) : (lfT f ps).length = ps.length := by simp [lfT]
theorem lfL_len (L C : Int) (os : List Opn) (nm : List UInt8) (cs : List Crs) (q : Int) : (lfL L C os nm cs q).length ≤ 9 := by
  unfold lfL
  split
  · rename_i h
    unfold lfC at h
    split at h
    · rename_i h1
      rw [Bool.and_eq_true] at h1
      have := (validF_bd h1.1).2.2.1
      have := partsI_len L q os
      rw [lfT_len]; omega
    · omega
  · simp
/-- a text is appended; all but the row's own block is as it was -/
theorem wpList_append_strb {w0 w : World} {base : Nat} {ops : Array Oper} {rest : List Oper} {o : Oper} {a : Act} {Q : Exit → Act → World → Prop} (hgd : o.guard = none) (s x : Operand)
    (ho : o.op = .call { callee := .builtin .append, args := #[s, x], argTypes := #[44, 44] })
    (v : Value) (l : List ByteArray) (b : ByteArray) (hs : a.eval s = v) (hw : w = w0.alloc (.cells #[.string b] 9)) (hx : a.eval x = .slice (some ⟨w0.heap.size, 0, none⟩) 1 1)
    (hown : OwnStrs w0 base v l) (hbase : base ≤ w0.heap.size) (hb : b.size ≤ 9223372036854775807) (hlen : l.length ≤ 10000000)
    (h : ∀ v' w', OwnStrs w' base v' (l ++ [b]) → w0.grownBy w' v.ownBlock → wpList Try.prog ops Q rest (a.put o.dst v') w') : wpList Try.prog ops Q (o :: rest) a w := by
  obtain ⟨i0, hi, hz0, hz1, hz2⟩ := info_parts info_str
  subst hw
  refine wpList_append_own _ hgd s x 44 ho base 9 i0 (.string ByteArray.empty) 1 16 Try.underlying44 hi hz0 hz1 hz2 rfl (by decide) v l.length (l.map Value.string) hs (World.ownsRow.alloc hown.1 _)
    ⟨w0.heap.size, 0, none⟩ 1 1 [.string b] hx rfl (cells_new _ _ _) (by intro u hu; simp at hu; subst hu; rfl) (by unfold maxLen; omega) (by omega) (by simp; omega) ?_
  intro v' w' ho' hg _
  refine h v' w' ⟨by simpa using ho', fun z hz => ?_⟩ ((World.grownBy_alloc w0 _ _).trans hg)
  rcases List.mem_append.1 hz with hz | hz
  · exact hown.2 z hz
  · simp at hz; subst hz; exact hb
theorem strs_otherF {w : World} {base g : Nat} {v : Value} {ss : List ByteArray} {cs : Array Value} {T : TypeId} {m : Nat × Nat} (h : OwnStrs w base v ss) (hb : w.heap[g]? = some (.cells cs T m)) (hT : T ≠ 9) : some g ≠ v.ownBlock := by
  intro e
  rcases h.1.2 with ⟨rfl, _⟩ | ⟨g2, cap, cur, rfl, _, hh, _⟩
  · simp [Value.ownBlock] at e
  · have e3 : g2 = g := by simpa [Value.ownBlock] using e.symm
    subst e3
    rw [hh] at hb
    simp at hb
    exact hT hb.2.1.symm
theorem parts_beside {w w' : World} {base base' : Nat} {v u : Value} {ss : List ByteArray} {ps : List (Int × Int)} (h : OwnParts w base v ps) (ho : OwnStrs w base' u ss) (hg : w.grownBy w' u.ownBlock) : OwnParts w' base v ps := by
  refine World.ownsRow.kept h hg ?_
  rcases h.2 with ⟨rfl, _⟩ | ⟨g2, cap, cur, rfl, _, hh, _⟩
  · exact .inl rfl
  · exact .inr (fun e => strs_otherF ho hh (by decide) e)
/-- what stands in memory between two parts -/
def KF (w2 : World) (pb : Nat) (nm : ByteArray) (bo : Option Addr) (m d base : Nat) (a : Option Addr) (c : Nat) (ps : List (Int × Int)) (v : Value) (ss : List ByteArray) (W : World) : Prop :=
  W.heap[pb]? = some (.cells #[.string nm, .slice bo m d] 66 (0, 0)) ∧ OwnParts W base (.slice a ps.length c) ps ∧ OwnStrs W w2.heap.size v ss ∧ Ext w2 W
theorem KF.ext {w2 : World} {pb : Nat} {nm : ByteArray} {bo : Option Addr} {m d base : Nat} {a : Option Addr} {c : Nat} {ps : List (Int × Int)} {v : Value} {ss : List ByteArray} {W W' : World} (h : KF w2 pb nm bo m d base a c ps v ss W) (e : Ext W W') : KF w2 pb nm bo m d base a c ps v ss W' :=
  ⟨e.block h.1, h.2.1.ext e, h.2.2.1.ext e, h.2.2.2.trans e⟩
theorem KF.app {w2 : World} {pb : Nat} {nm : ByteArray} {bo : Option Addr} {m d base : Nat} {a : Option Addr} {c : Nat} {ps : List (Int × Int)} {v v' : Value} {ss ss' : List ByteArray} {W W' : World} (h : KF w2 pb nm bo m d base a c ps v ss W) (hg : W.grownBy W' v.ownBlock) (ho : OwnStrs W' w2.heap.size v' ss') : KF w2 pb nm bo m d base a c ps v' ss' W' :=
  ⟨(hg.block pb (lt_of_block h.1) (strs_otherF h.2.2.1 h.1 (by decide))).trans h.1, parts_beside h.2.1 h.2.2.1 hg, ho, h.2.2.2.grown hg (fun k hk => (h.2.2.1.1.lt k hk).1)⟩
set_option maxRecDepth 100000 in
set_option maxHeartbeats 4000000 in
theorem i_LayFront (L C : Int) (ao : Option Addr) (n c : Nat) (os : List Opn) (nm : ByteArray) (bo : Option Addr) (m d : Nat) (cs : List Crs) (q : Int) (w : World) (hx : Opens w ao n os) (hnc : n ≤ c) (hnm : nm.size ≤ 9223372036854775807) (hy : Crss w bo m cs) :
    Calls Try.prog 36 #[.agg #[.int .i64 L, .int .i64 C, .slice ao n c], .agg #[.string nm, .slice bo m d], .int .i64 q] w (RetStrsC (lfL L C os (bts nm) cs q) (lfC L C os (bts nm) cs q) w) := by
  have e0 : Ext w ((w.alloc (.cells #[.int .i64 L, .int .i64 C, .slice ao n c] 30)).alloc (.cells #[.string nm, .slice bo m d] 66)) := ((Ext.refl w).alloc _).alloc _
  have A := (Three.new w (.int .i64 L) (.int .i64 C) (.slice ao n c) 30).ext ((Ext.refl _).alloc (.cells #[.string nm, .slice bo m d] 66))
  have B : Two ((w.alloc (.cells #[.int .i64 L, .int .i64 C, .slice ao n c] 30)).alloc (.cells #[.string nm, .slice bo m d] 66)) (w.heap.size + 1) (.string nm) (.slice bo m d) := by
    have := Two.new (w.alloc (.cells #[.int .i64 L, .int .i64 C, .slice ao n c] 30)) (.string nm) (.slice bo m d) 66
    rwa [World.size_alloc] at this
  have HE := Lib.hid e0
  have HV := Lib.hid (fun W (e : Ext w W) => i_ValidFront L C ao n c os W (hx.ext e) hnc)
  have HBo := Lib.hid (fun W (e : Ext w W) => i_ValidBond nm bo m d cs W hnm (hy.ext e))
  have HQ := Lib.hid (fun W => i_within q 0 (C - 1) W)
  have hcode : lfC L C os (bts nm) cs q = if validF L C os && bondB (bts nm) cs then (if inB q 0 (C - 1) then (if lfFit (ltrAt cs q) (partsI L q os) then 0 else 5) else 2) else 1 := rfl
  have HNil : Hid (∀ k, lfC L C os (bts nm) cs q = k → k ≠ 0 → ∀ (w' : World), Ext w w' → RetStrsC (lfL L C os (bts nm) cs q) (lfC L C os (bts nm) cs q) w (.returned (.tuple #[.slice none 0 0, .int .i64 k])) w') := Lib.hid (fun k hk h0 w' e => by
    have h : lfL L C os (bts nm) cs q = [] := by unfold lfL; rw [if_neg (by rw [hk]; exact h0)]
    rw [h]
    exact RetStrsC.of_own (OwnStrs.nilv _ _) e hk.symm)
  clear e0
  cases hv : validF L C os with
  | false =>
    have HC : Hid (lfC L C os (bts nm) cs q = 1) := Lib.hid (by rw [hcode, hv]; rfl)
    rw [hv] at HV
    clear hv hcode hx hy
    go_enter Try.func36, Try.ntmps36
    go_wp2_with (go_at_call 51; refine (HV.out _ HE.out).mono ?_; rintro e w1 ⟨rfl, e1⟩)
    go_ret2
    exact HNil.out 1 HC.out (by decide) _ (HE.out.trans e1)
  | true =>
    cases hb : bondB (bts nm) cs with
    | false =>
      have HC : Hid (lfC L C os (bts nm) cs q = 1) := Lib.hid (by rw [hcode, hv, hb]; rfl)
      rw [hv] at HV
      rw [hb] at HBo
      clear hv hb hcode hx hy
      go_enter Try.func36, Try.ntmps36
      go_wp2_with (first | (go_at_call 51; refine (HV.out _ HE.out).mono ?_; rintro e w1 ⟨rfl, e1⟩; have HE1 := Lib.hid (HE.out.trans e1); replace B := B.ext e1; clear e1) | (go_at_call 78; refine (HBo.out _ HE1.out).mono ?_; rintro e w2 ⟨rfl, e2⟩))
      go_ret2
      exact HNil.out 1 HC.out (by decide) _ (HE1.out.trans e2)
    | true =>
      cases hq : inB q 0 (C - 1) with
      | false =>
        have HC : Hid (lfC L C os (bts nm) cs q = 2) := Lib.hid (by rw [hcode, hv, hb, hq]; rfl)
        have hcb := (validF_bd hv).2.1
        rw [hv] at HV
        rw [hb] at HBo
        rw [hq] at HQ
        clear hv hb hq hcode hx hy
        go_enter Try.func36, Try.ntmps36
        go_wp2_with (first | (go_at_call 51; refine (HV.out _ HE.out).mono ?_; rintro e w1 ⟨rfl, e1⟩; have HE1 := Lib.hid (HE.out.trans e1); replace A := A.ext e1; replace B := B.ext e1; clear e1) | (go_at_call 78; refine (HBo.out _ HE1.out).mono ?_; rintro e w2 ⟨rfl, e2⟩; have HE2 := Lib.hid (HE1.out.trans e2); replace A := A.ext e2; clear e2) | (go_at_call 79; refine (HQ.out _).mono ?_; rintro e w' ⟨rfl, rfl⟩))
        go_ret2
        exact HNil.out 2 HC.out (by decide) _ HE2.out
      | true =>
        have hqb := inB_iff.1 hq
        obtain ⟨⟨l1, l2⟩, ⟨c1, c2⟩, n8, hok⟩ := validF_bd hv
        obtain ⟨b1, b2, b3⟩ := bondB_bd hb
        have hxl := hx.1
        have hyl := hy.1
        have HP := Lib.hid (fun W (e : Ext w W) => i_partsOf L C ao n c os q W (hx.ext e) (by omega))
        have HLay := Lib.hid (fun W (e : Ext w W) u (u1 : 1 ≤ u) (u2 : u ≤ 200) => i_layCourse nm bo m d cs q u W (hy.ext e) (by omega) (by omega) b3 (by omega) (by omega) u1 u2)
        have hpb := parts_bd (c := q) hok
        have hlen := partsI_len L q os
        have HLL : Hid (lfC L C os (bts nm) cs q = if lfFit (ltrAt cs q) (partsI L q os) = true then 0 else 5) := Lib.hid (by rw [hcode, hv, hb, hq]; rfl)
        have HLF : Hid (lfFit (ltrAt cs q) (partsI L q os) = true → lfL L C os (bts nm) cs q = lfT (ltrAt cs q) (partsI L q os)) := Lib.hid (fun h => by unfold lfL; rw [if_pos (by rw [HLL.out, if_pos h])])
        obtain ⟨f, hf⟩ : ∃ f, ltrAt cs q = f := ⟨_, rfl⟩
        obtain ⟨ps, hps⟩ : ∃ ps, partsI L q os = ps := ⟨_, rfl⟩
        rw [hf] at HLay HLL HLF
        rw [hps] at HP hpb hlen HLL HLF
        have hpl : ps.length ≤ 9 := by omega
        have HPB := Lib.hid hpb
        rw [hv] at HV
        rw [hb] at HBo
        rw [hq] at HQ
        clear hv hb hq hcode hx hy hf hps hpb hlen hok hxl hyl b1 b2 b3
        go_enter Try.func36, Try.ntmps36
        go_wp2_with (first | (go_at_call 51; refine (HV.out _ HE.out).mono ?_; rintro e w1 ⟨rfl, e1⟩; have HE1 := Lib.hid (HE.out.trans e1); have HB1 := Lib.hid e1; replace A := A.ext e1; replace B := B.ext e1; clear e1) | (go_at_call 78; refine (HBo.out _ HE1.out).mono ?_; rintro e w2 ⟨rfl, e2⟩; have HE2 := Lib.hid (HE1.out.trans e2); have HB2 := Lib.hid (HB1.out.trans e2); replace A := A.ext e2; replace B := B.ext e2; clear e2) | (go_at_call 79; refine (HQ.out _).mono ?_; rintro e w' ⟨rfl, rfl⟩))
        refine (HP.out _ (HE2.out.alloc _)).mono ?_
        rintro e w3 ⟨a3, c3, rfl, o3, e3⟩
        have hbk : ∀ W, Ext (((w.alloc (.cells #[.int .i64 L, .int .i64 C, .slice ao n c] 30)).alloc (.cells #[.string nm, .slice bo m d] 66))) W → W.heap[w.heap.size + 1]? = some (.cells #[.string nm, .slice bo m d] 66 (0, 0)) := fun W e => e.block (by
          have := heap_alloc_new (w.alloc (.cells #[.int .i64 L, .int .i64 C, .slice ao n c] 30)) (.cells #[.string nm, .slice bo m d] 66)
          rwa [World.size_alloc] at this)
        have hk0 : KF w2 (w.heap.size + 1) nm bo m d (w2.alloc (.cells #[] 9)).heap.size a3 c3 ps (.slice (some ⟨w2.heap.size, 0, none⟩) 0 0) (lfT f (ps.take 0)) w3 :=
          ⟨hbk _ ((HB2.out.alloc _).trans e3), o3, (OwnStrs.empty (Ext.refl w2)).ext e3, ((Ext.refl w2).alloc _).trans e3⟩
        have HK0 := Lib.hid hk0
        obtain ⟨bse, hbse⟩ : ∃ b, (w2.alloc (.cells #[] 9)).heap.size = b := ⟨_, rfl⟩
        rw [hbse] at HK0
        clear o3 e3 A B hbk hk0 hbse
        go_wp2
        go_loopw [8, 34] (fun v i wr => ∃ k : Nat, k ≤ ps.length ∧ i = .int .i64 k ∧ Hid (KF w2 (w.heap.size + 1) nm bo m d bse a3 c3 ps v (lfT f (ps.take k)) wr) ∧ Hid (lfFit f (ps.take k) = true)) (fun _ i _ => ps.length - (intOf i).toNat)
        case atStart => exact ⟨0, Nat.zero_le _, rfl, HK0, Lib.hid rfl⟩
        case round =>
          obtain ⟨k, hk, rfl, HK, HFit⟩ := hrel
          obtain ⟨q0, q1, _, _, q4⟩ := two_cells HK.out.1
          have HX2 := Lib.hid HK.out.2.2.2
          by_cases hkl : k < ps.length
          · obtain ⟨gp, rfl, d0, d1⟩ := HK.out.2.1.at hkl
            have hp := HPB.out (ps.getD k (0, 0)) (by rw [List.getD_eq_getElem?_getD, List.getElem?_eq_getElem hkl]; exact List.getElem_mem _)
            obtain ⟨p, hpe⟩ : ∃ p, ps.getD k (0, 0) = p := ⟨_, rfl⟩
            rw [hpe] at d0 d1 hp
            obtain ⟨x, y⟩ := p
            have hp' : 0 ≤ x ∧ x < y ∧ y ≤ L := hp
            have d0' : wr.cell? ⟨gp, k * 2, none⟩ = some (.int .i64 x) := d0
            have d1' : wr.cell? ⟨gp, k * 2 + 1, none⟩ = some (.int .i64 y) := d1
            have hki : (k : Int) < (ps.length : Int) := by omega
            have hk0 : (0 : Int) ≤ (k : Int) := by omega
            have HL := Lib.hid (HLay.out _ ((HE2.out.trans HX2.out).alloc (.cells #[.int .i64 x, .int .i64 y] 51)) (y - x) (by omega) (by omega))
            have HSN := Lib.hid (lfT_snoc f ps k x y hkl hpe)
            have HFN := Lib.hid (lfFit_snoc hkl hpe HFit.out)
            have HFB := Lib.hid (lfFit_bad (f := f) hkl hpe)
            have HLN : Hid ((lfT f (ps.take k)).length ≤ 10000000) := Lib.hid (by rw [lfT_len, List.length_take]; omega)
            have HKX := Lib.hid (HK.out.ext ((Ext.refl wr).alloc (.cells #[.int .i64 x, .int .i64 y] 51)))
            clear hp hpe d0 d1
            obtain ⟨t, ht⟩ : ∃ t, layT f (y - x) = t := ⟨_, rfl⟩
            unfold layL layCd at HL
            rw [ht] at HL HSN HFN HFB
            by_cases hbig : 60 < t.length
            · rw [if_pos hbig, if_pos hbig] at HL
              have HC : Hid (lfC L C os (bts nm) cs q = 5) := Lib.hid (by rw [HLL.out, HFB.out hbig]; rfl)
              clear ht
              go_wp2_with (go_at_call 80; refine HL.out.mono ?_; rintro e w4 ⟨rfl, e4⟩)
              go_ret2
              exact HNil.out 5 HC.out (by decide) _ ((HE2.out.trans HKX.out.2.2.2).trans e4)
            · rw [if_neg hbig, if_neg hbig] at HL
              have HFN2 := Lib.hid (HFN.out hbig)
              have hsz := mkS_size t
              have hL := HL.out
              unfold RetSC at hL
              obtain ⟨z, hz⟩ : ∃ z, mkS t = z := ⟨_, rfl⟩
              rw [hz] at hL HSN hsz
              have HL2 := Lib.hid hL
              have HZS : Hid (z.size ≤ 9223372036854775807) := Lib.hid (by omega)
              clear ht hz hsz hL
              go_wp2_with (first | (go_at_call 80; refine HL2.out.mono ?_; rintro e w4 ⟨rfl, e4⟩; have HK4 := Lib.hid (HKX.out.ext e4); clear e4) | (at_builtin; refine wpList_append_strb (base := w2.heap.size) rfl _ _ rfl _ _ z rfl rfl rfl HK4.out.2.2.1 HK4.out.2.2.2.size HZS.out HLN.out ?_))
              intro v' w5 ho5 hg5
              have HK5 : Hid (KF w2 (w.heap.size + 1) nm bo m d bse (some ⟨gp, 0, none⟩) c3 ps v' (lfT f (ps.take (k + 1))) w5) := Lib.hid (by rw [HSN.out]; exact HK4.out.app hg5 ho5)
              clear ho5 hg5 q0 q1
              go_wp2
              go_roundw
              case rel => first | exact ⟨k + 1, by omega, by go_num, HK5, HFN2⟩ | ((repeat apply Exists.intro); exact ⟨⟨k + 1, by omega, by go_num, HK5, HFN2⟩, rfl⟩)
              case measure => (simp [intOf] <;> omega)
          · obtain rfl : k = ps.length := by omega
            have hfit := HFit.out
            have hst := HK.out.2.2.1
            rw [List.take_of_length_le (Nat.le_refl _)] at hfit hst
            have HC : Hid (lfC L C os (bts nm) cs q = 0) := Lib.hid (by rw [HLL.out, if_pos hfit])
            have HLF2 := Lib.hid (HLF.out hfit)
            have HST := Lib.hid hst
            clear hfit hst
            go_wp2
            go_ret2
            exact RetStrsC.of_own (by rw [HLF2.out]; exact HST.out.mono HE2.out.size) (HE2.out.trans HX2.out) HC.out.symm
end Go.Proofs.Ytnhmcmohnpbcjaa
