/- Contracts of the library's parting of a text at a letter. -/
import Derived.Test.YtdedamamjkpcpaaGreatDoorGaSm
import Derived.Test.YtdedamamjkpcpaaGreatDoorDec2
import Derived.Test.YtdedamamjkpcpaaGreatDoorGaStrs
namespace Go.Proofs.YtdedamamjkpcpaaGreatDoor
open Go.RowKit
set_option linter.unusedSimpArgs false
set_option linter.unusedVariables false
set_option linter.unnecessarySimpa false

/-- the words of a text are handed back, in a new block -/
def RetWs (L : List ByteArray) (w : World) (e : Ending) (w' : World) : Prop := ∃ g c, w.heap.size ≤ g ∧ e = .returned (.slice (some ⟨g, 0, none⟩) L.length c) ∧ Strs w' (some ⟨g, 0, none⟩) L.length L ∧ Ext w w'
theorem strs_new (w : World) (L : List ByteArray) (hl : L.length ≤ 9223372036854775807) (hz : ∀ x ∈ L, x.size ≤ 9223372036854775807) (pad : List Value) : Strs (w.alloc (.cells (L.map Value.string ++ pad).toArray 9)) (some ⟨w.heap.size, 0, none⟩) L.length L := by
  refine ⟨rfl, hl, fun i hi => ⟨w.heap.size, 0, rfl, ?_⟩, hz⟩
  have h := cells_new w (L.map Value.string ++ pad) 9 i (.string (L.getD i ByteArray.empty)) (by
    rw [List.getElem?_append_left (by rw [List.length_map]; exact hi), List.getElem?_map, List.getElem?_eq_getElem hi, List.getD_eq_getElem?_getD, List.getElem?_eq_getElem hi]; rfl)
  rw [Addr.add_lit] at h
  exact h
theorem of_bts {L : List ByteArray} {ws : List (List UInt8)} (h : L.map bts = ws) : L = ws.map mkS := by
  rw [← h, List.map_map]
  conv => lhs; rw [← List.map_id L]
  exact List.map_congr_left (fun x _ => (mkS_bts x).symm)
/-- the words of a text, at most thirteen -/
def wordsN (s : List UInt8) : List (List UInt8) := Lib.splitK [32] 0 (min 13 (s.length + 1) - 1) s
theorem wordsN_few {s : List UInt8} (h : (splL 32 s).length ≤ 13) : wordsN s = splL 32 s := by
  have := splL_len 32 s
  exact splitK_spl 32 _ s (by omega)
theorem wordsN_many {s : List UInt8} (h : 13 < (splL 32 s).length) : (wordsN s).length = 13 := by
  have := splL_len 32 s
  unfold wordsN
  rw [splitK_long 32 _ s (by omega)]
  omega
theorem wordsN_len (s : List UInt8) : (wordsN s).length ≤ 13 := by
  rcases Nat.lt_or_ge 13 (splL 32 s).length with h | h
  · rw [wordsN_many h]; exact Nat.le_refl _
  · rw [wordsN_few h]; exact h
theorem f_SplitN (s : ByteArray) (hs : s.size ≤ 2000000) (w : World) (hM : ∃ m, w.cell? ⟨0, 0, none⟩ = some (.int .i64 m)) : Calls Tryz.prog 68 #[.string s, .string ⟨#[32]⟩, .int .i64 13] w (RetWs ((wordsN (bts s)).map mkS) w) := by
  obtain ⟨m, hm⟩ := hM
  refine (Tryz.strings_SplitN s ⟨#[32]⟩ 13 m w (by omega) hm (Nat.le_refl 1) (by decide) (by decide)).mono ?_
  rintro e w' ⟨rfl, rfl⟩
  have hL : Lib.splitB ⟨#[32]⟩ 0 (min 13 (s.size + 1) - 1) s = (wordsN (bts s)).map mkS := by
    refine of_bts ?_
    refine (Lib.splitB_data ⟨#[32]⟩ 0 _ s).trans ?_
    unfold wordsN
    rw [bts_length]; rfl
  have hn := wordsN_len (bts s)
  have hst := strs_new w ((wordsN (bts s)).map mkS) (by rw [List.length_map]; omega) (fun x hx => by
    obtain ⟨y, hy, rfl⟩ := List.mem_map.1 hx
    have := splitK_mem 32 _ (bts s) y hy
    rw [bts_length] at this
    rw [mkS_size]; omega) (List.replicate (min 13 (s.size + 1) - ((wordsN (bts s)).map mkS).length) (Value.string ByteArray.empty))
  rw [hL]
  exact ⟨w.heap.size, _, Nat.le_refl _, rfl, hst, (Ext.refl w).alloc _⟩
end Go.Proofs.YtdedamamjkpcpaaGreatDoor
