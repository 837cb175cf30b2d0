/- The document's own frames (package syzygyref07) as printed, and its Records (layer 19) as calls. -/
import Derived.Test.YtoafebndlldclaaDoorTxtA
import Derived.Test.YtoafebndlldclaaDoorPr2
namespace Go.Proofs.YtoafebndlldclaaDoor.Pure
open Go.RowKit Go.Proofs.YtoafebndlldclaaDoor.PAll Go.Proofs.YtoafebndlldclaaDoorW.PrintWords Go.Proofs.YtoafebndlldclaaDoorW.PrintLast Go.Proofs.YtoafebndlldclaaDoor.Fr

theorem wrap_all {x : Int} (h0 : -9223372036854775808 ≤ x) (h1 : x < 9223372036854775808) : wrap64 x = x := by unfold wrap64; omega

theorem refsum_some (s : ByteArray) (h : s.size ≤ 9223372036854775807) : syzygyref07_Sum.f s = some ((Crc.crc s.data.toList : Nat) : Int) := by
  unfold syzygyref07_Sum.f; rw [if_pos h]
theorem refnum_some (s : ByteArray) (h : s.size ≤ 8) : syzygyref07_number.f s = some ((Num.numL s.data.toList : Nat) : Int) := by
  unfold syzygyref07_number.f; rw [if_pos h]

theorem num4_lt (l : List UInt8) (h : l.length = 4) : Num.numL l < 4294967296 := by
  have := Num.numL_lt l
  rw [h] at this
  exact Nat.lt_of_lt_of_le this (by decide)

theorem reffirst_some (s : ByteArray) (hs : s.size ≤ 140737488351232) : syzygyref07_First.f s = some (asV (firstL s.data.toList)) := by
  have hl := list_size s
  unfold syzygyref07_First.f
  by_cases h0 : s.size = 0
  · rw [firstL_empty (by omega), if_pos (by omega)]; rfl
  rw [if_neg (by omega)]
  by_cases h1 : s.size < 24
  · rw [firstL_short (by omega) (by omega), if_pos (by omega)]; rfl
  rw [if_neg (by omega), if_pos (by omega), if_pos (by omega)]
  rw [refnum_some _ (by rw [ByteArray.size_extract]; omega)]
  rw [Option.bind_some, extract_list, List.drop_zero]
  have hnum4 := num4_lt (s.data.toList.take 4) (by rw [List.length_take]; omega)
  rw [wrap_in (x := (Num.numL (s.data.toList.take 4) : Int)) (by omega) (by omega)]
  by_cases h2 : Num.numL (s.data.toList.take 4) > 8192
  · rw [firstL_cap (by omega) h2, if_pos (by omega)]; rfl
  rw [if_neg (by omega), wrap_in (x := 24 + (Num.numL (s.data.toList.take 4) : Int)) (by omega) (by omega), wrap_in (x := 20 + (Num.numL (s.data.toList.take 4) : Int)) (by omega) (by omega)]
  by_cases h3 : s.size < 24 + Num.numL (s.data.toList.take 4)
  · rw [firstL_cut (by omega) h2 (by omega), if_pos (by omega)]; rfl
  rw [if_neg (by omega), if_pos (by omega), if_pos (by omega)]
  rw [refsum_some _ (by rw [ByteArray.size_extract]; omega)]
  rw [Option.bind_some, extract_list, List.drop_zero]
  rw [if_pos (by omega), if_pos (by omega), refnum_some _ (by rw [ByteArray.size_extract]; omega)]
  rw [Option.bind_some, extract_list]
  rw [show (20 + (Num.numL (s.data.toList.take 4) : Int)).toNat = 20 + Num.numL (s.data.toList.take 4) from by omega, show (24 + (Num.numL (s.data.toList.take 4) : Int)).toNat = 24 + Num.numL (s.data.toList.take 4) from by omega]
  have hc := Crc.crc_lt (s.data.toList.take (20 + Num.numL (s.data.toList.take 4)))
  rw [wrap_u64 (by omega) (by omega)]
  by_cases h4 : Crc.crc (s.data.toList.take (20 + Num.numL (s.data.toList.take 4))) = Num.numL ((s.data.toList.take (24 + Num.numL (s.data.toList.take 4))).drop (20 + Num.numL (s.data.toList.take 4)))
  rotate_left
  · rw [firstL_sum (by omega) h2 (by omega) h4, if_neg (by omega)]; rfl
  rw [firstL_ok (by omega) h2 (by omega) h4, if_pos (by omega), if_pos (by omega), if_pos (by omega), refnum_some _ (by rw [ByteArray.size_extract]; omega)]
  rw [Option.bind_some, extract_list]
  rw [if_pos (by omega), if_pos (by omega), refnum_some _ (by rw [ByteArray.size_extract]; omega)]
  rw [Option.bind_some, extract_list]
  rw [if_pos (by omega), if_pos (by omega)]
  unfold asV
  congr 1
  refine Prod.ext rfl (Prod.ext rfl (Prod.ext ?_ (Prod.ext ?_ rfl)))
  · apply ext_list; simp only [extract_list, ba_list]
  · apply ext_list; simp only [extract_list, ba_list]; rw [← hl, List.take_length]

end Go.Proofs.YtoafebndlldclaaDoor.Pure

namespace Go.Proofs.YtoafebndlldclaaDoor.Pure
open Go.RowKit Go.Proofs.YtoafebndlldclaaDoor.PAll Go.Proofs.YtoafebndlldclaaDoorW.PrintWords Go.Proofs.YtoafebndlldclaaDoorW.PrintLast Go.Proofs.YtoafebndlldclaaDoor.Fr

def toR1 (x : F4) : S112 := ⟨(x.2.1 : Int), (x.2.2.1 : Int), ba x.2.2.2⟩
def toR (l : List F4) : List S112 := l.map toR1

theorem wrapu_len (n : Nat) (h : n < 1000000) : IntKind.u64.wrap (IntKind.u64.wrap (n : Int) + 1) = ((n + 1 : Nat) : Int) := by
  rw [wrap_u64 (x := (n : Int)) (by omega) (by omega), wrap_u64 (by omega) (by omega)]; omega
theorem wrap_at (a t : Nat) (ha : a < 1000000) (ht : t < 1000000) : wrap64 (wrap64 ((a : Int) + 24) + (t : Int)) = ((a + (24 + t) : Nat) : Int) := by
  rw [wrap_in (x := (a : Int) + 24) (by omega) (by omega), wrap_in (by omega) (by omega)]; omega

theorem refall_loop (s : ByteArray) (hs : s.size ≤ 100000) (ep : Nat) : ∀ (d k a : Nat) (pre : List F4), s.size - a ≤ d → d < k → a ≤ s.size → pre.length ≤ a →
    syzygyref07_All.l0 k s ep (toR pre) a = some (toR (pre ++ (allL ep pre.length a (G (s.data.toList.drop a) a)).1), ((allL ep pre.length a (G (s.data.toList.drop a) a)).2 : Int)) := by
  intro d
  induction d with
  | zero =>
    intro k a pre hd hk ha hpl
    obtain ⟨k, rfl⟩ : ∃ m, k = m + 1 := ⟨k - 1, by omega⟩
    have hz : (s.data.toList.drop a).length = 0 := by rw [List.length_drop, list_size]; omega
    have he : (s.extract a s.size).data.toList = s.data.toList.drop a := by rw [extract_list, ← list_size, List.take_length]
    have hf := firstL_empty hz
    simp only [syzygyref07_All.l0]
    rw [if_pos (by omega), if_pos (by omega), Int.toNat_natCast, reffirst_some _ (by rw [ByteArray.size_extract]; omega), he, hf, Option.bind_some]
    rw [if_neg (by simp [asV]), G_no (by rw [hf]; simp)]
    simp [allL]
  | succ d ih =>
    intro k a pre hd hk ha hpl
    obtain ⟨k, rfl⟩ : ∃ m, k = m + 1 := ⟨k - 1, by omega⟩
    have he : (s.extract a s.size).data.toList = s.data.toList.drop a := by rw [extract_list, ← list_size, List.take_length]
    simp only [syzygyref07_All.l0]
    rw [if_pos (by omega), if_pos (by omega), Int.toNat_natCast, reffirst_some _ (by rw [ByteArray.size_extract]; omega), he, Option.bind_some]
    have hr := first_rest (s := s.data.toList.drop a)
    have hok := @G_ok (s.data.toList.drop a) a
    have hno := @G_no (s.data.toList.drop a) a
    unfold nextL at hok
    rcases hf : firstL (s.data.toList.drop a) with ⟨q, e, t, r, x⟩
    rw [hf] at hr hok hno
    dsimp only at hr hok hno
    by_cases hx : x = 0
    · subst hx
      obtain ⟨_, hl, _⟩ := hr rfl
      rw [List.length_drop, list_size] at hl
      rw [if_pos (show (asV (q, e, t, r, 0)).2.2.2.2 = 0 from rfl), hok rfl]
      have hlen : ((toR pre).length : Int) = (pre.length : Int) := by simp [toR]
      rw [hlen, wrapu_len _ (by omega)]
      simp only [allL]
      by_cases h1 : e = ep
      · rw [if_pos (show (asV (q, e, t, r, 0)).2.1 = (ep : Int) from by show (e : Int) = (ep : Int); omega)]
        by_cases h2 : q = pre.length + 1
        · rw [if_pos (show (asV (q, e, t, r, 0)).1 = ((pre.length + 1 : Nat) : Int) from by show (q : Int) = ((pre.length + 1 : Nat) : Int); omega), if_pos (show (toR pre).length < 4398046511104 from by simp only [toR, List.length_map]; omega), if_pos (show good ep pre.length (a + (24 + t.length), q, e, t) = true from by simp [good, h1, h2])]
          have hsz : ((asV (q, e, t, r, 0)).2.2.1.size : Int) = (t.length : Int) := by show ((ba t).size : Int) = _; rw [ba_size]
          rw [hsz, wrap_at a t.length (by omega) (by omega)]
          have hnew : toR pre ++ [(⟨(asV (q, e, t, r, 0)).1, (asV (q, e, t, r, 0)).2.1, (asV (q, e, t, r, 0)).2.2.1⟩ : S112)] = toR (pre ++ [(a + (24 + t.length), q, e, t)]) := by simp [toR, toR1, asV]
          rw [hnew, ih k (a + (24 + t.length)) _ (by omega) (by omega) (by omega) (by simp; omega)]
          rw [List.drop_drop, List.length_append, List.length_singleton, List.append_assoc]
          rfl
        · rw [if_neg (show ¬ (asV (q, e, t, r, 0)).1 = ((pre.length + 1 : Nat) : Int) from by show ¬ (q : Int) = ((pre.length + 1 : Nat) : Int); omega), if_neg (show ¬ good ep pre.length (a + (24 + t.length), q, e, t) = true from by simp [good]; intro _; exact h2)]
          simp
      · rw [if_neg (show ¬ (asV (q, e, t, r, 0)).2.1 = (ep : Int) from by show ¬ (e : Int) = (ep : Int); omega), if_neg (show ¬ good ep pre.length (a + (24 + t.length), q, e, t) = true from by simp [good, h1])]
        simp
    · rw [if_neg (show ¬ (asV (q, e, t, r, x)).2.2.2.2 = 0 from by show ¬ (x : Int) = 0; omega), hno hx]
      simp [allL]

theorem refall_some (s : ByteArray) (hs : s.size ≤ 100000) (ep k : Nat) (hk : s.size < k) :
    syzygyref07_All.f k s ep = some (toR (allL ep 0 0 (G s.data.toList 0)).1, ((allL ep 0 0 (G s.data.toList 0)).2 : Int)) := by
  have := refall_loop s hs ep s.size k 0 [] (by omega) hk (by omega) (by simp)
  simpa [syzygyref07_All.f, toR] using this

end Go.Proofs.YtoafebndlldclaaDoor.Pure

namespace Go.Proofs.YtoafebndlldclaaDoor.Wl
open Go Go.RowKit Go.Shelf Dk Fr Go.Proofs.YtoafebndlldclaaDoor.PAll Go.Proofs.YtoafebndlldclaaDoorW.PrintWords Go.Proofs.YtoafebndlldclaaDoorW.PrintLast

theorem recs_loop (fs : List F4) (hl : fs.length ≤ 1000000) (d : Nat) : ∀ (k i : Nat), i + d = fs.length → d < k → syzygyref19_Records.l0 k (Pure.toR fs) (bas ((fs.take i).map fun x => x.2.2.2)) i = some (bas (fs.map fun x => x.2.2.2)) := by
  have hbl : (Pure.toR fs).length = fs.length := by simp [Pure.toR]
  induction d with
  | zero =>
    intro k i hi hk
    obtain ⟨k, rfl⟩ : ∃ m, k = m + 1 := ⟨k - 1, by omega⟩
    simp only [syzygyref19_Records.l0]
    rw [if_neg (by omega), List.take_of_length_le (by omega)]
  | succ d ih =>
    intro k i hi hk
    obtain ⟨k, rfl⟩ : ∃ m, k = m + 1 := ⟨k - 1, by omega⟩
    have hil : i < fs.length := by omega
    simp only [syzygyref19_Records.l0]
    rw [if_pos (by omega), if_pos (by omega), if_pos (by simp [bas]; omega), wrap_ok (by omega) (by omega)]
    have hn : bas ((fs.take i).map fun x => x.2.2.2) ++ [(rd_T112 (Pure.toR fs) i).f2] = bas ((fs.take (i + 1)).map fun x => x.2.2.2) := by
      have hr : rd_T112 (Pure.toR fs) i = Pure.toR1 fs[i] := by
        unfold rd_T112 Pure.toR
        rw [Int.toNat_natCast, List.getD_eq_getElem?_getD, List.getElem?_map, List.getElem?_eq_getElem hil]; rfl
      rw [hr, List.take_add_one, List.getElem?_eq_getElem hil]
      unfold bas
      simp only [List.map_append]
      rfl
    rw [hn]
    exact ih k (i + 1) (by omega) (by omega)
theorem records19 (ep : Nat) (s : Bs) (hs : s.length ≤ 100000) (w : World) :
    Calls Tryd.prog 41 #[.string ⟨s.toArray⟩, .int .u64 ep] w fun e w' => ∃ v, e = .returned v ∧ Texts w' w.heap.size v (told ep s) ∧ Below w.heap.size w w' := by
  have hG := toldEnd_le ep s
  have h1 := toldEnd_eq ep s
  have h2 := szs_len (told ep s)
  have h3 : (told ep s).length = (allL ep 0 0 (G s 0)).1.length := by unfold told; simp
  have hall := Pure.refall_some ⟨s.toArray⟩ (by rw [ba_size']; exact hs) ep (s.length + 1) (by rw [ba_size']; omega)
  have hd : (⟨s.toArray⟩ : ByteArray).data.toList = s := by simp
  rw [hd] at hall
  have hk := recs_loop (allL ep 0 0 (G s 0)).1 (by omega) (allL ep 0 0 (G s 0)).1.length (s.length + 1) 0 (by omega) (by omega)
  have hr := syzygyref19_Records.calls (s.length + 1) ⟨s.toArray⟩ ep (bas (told ep s)) w (by
    unfold syzygyref19_Records.f
    rw [hall, Option.bind_some]
    exact hk)
  refine hr.mono ?_
  rintro e w' ⟨v', rfl, hR, hb⟩
  refine ⟨v', rfl, ?_, hb⟩
  have := texts_of_R hR
  rwa [show (bas (told ep s)).map (fun s => s.data.toList) = told ep s from by unfold bas; rw [List.map_map]; simp [Function.comp_def]] at this
end Go.Proofs.YtoafebndlldclaaDoor.Wl
