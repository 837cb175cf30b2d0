/- The document's Found (layer 20) and the statements' reading of a disk's bytes, as calls: they tell the epoch and the snapshot that foundD tells. -/
import Derived.Test.YtoafebndlldclaaDoorSx
import Derived.Test.YtoafebndlldclaaDoorStoreM
import Derived.Test.YtoafebndlldclaaDoorTxtB
import Derived.Test.YtoafebndlldclaaDoorPr4
namespace Go.Proofs.YtoafebndlldclaaDoor.St
open Go Go.RowKit Go.Shelf Dk Fr Wl Go.Proofs.YtoafebndlldclaaDoor.PAll Go.Proofs.YtoafebndlldclaaDoorW.PrintWords Go.Proofs.YtoafebndlldclaaDoorW.PrintLast

theorem recs_some (ep : Nat) (s : Bs) (hs : s.length ≤ 100000) (k : Nat) (hk : s.length < k) : syzygyref19_Records.f k ⟨s.toArray⟩ ep = some (bas (told ep s)) := by
  have hG := toldEnd_le ep s
  have h1 := toldEnd_eq ep s
  have h2 := szs_len (told ep s)
  have h3 : (told ep s).length = (allL ep 0 0 (G s 0)).1.length := by unfold told; simp
  have hall := Pure.refall_some ⟨s.toArray⟩ (by rw [ba_size']; exact hs) ep k (by rw [ba_size']; exact hk)
  have hd : (⟨s.toArray⟩ : ByteArray).data.toList = s := by simp
  rw [hd] at hall
  have hl := recs_loop (allL ep 0 0 (G s 0)).1 (by omega) (allL ep 0 0 (G s 0)).1.length k 0 (by omega) (by omega)
  unfold syzygyref19_Records.f
  rw [hall, Option.bind_some]
  exact hl

theorem found_step {R : Type} (A : Bs) (hA : A.length ≤ 140737488351232) (x6 : Nat) (x7 : Bs) (F : Int → ByteArray → Option R) :
    ((syzygyref07_First.f (ba A)).bind fun bt => if bt.2.2.2.2 = 0 then (if bt.1 = bt.2.1 then (if bt.2.1 > (x6 : Int) then F bt.2.1 bt.2.2.1 else F x6 (ba x7)) else F x6 (ba x7)) else F x6 (ba x7))
      = if x6 < (snapOf A).1 then F (snapOf A).1 (ba (snapOf A).2) else F x6 (ba x7) := by
  rw [Pure.reffirst_some (ba A) (by show A.toArray.size ≤ _; simpa using hA), Option.bind_some]
  rw [show (ba A).data.toList = A from by simp [ba]]
  rcases hf : firstL A with ⟨q, e, t, r, x⟩
  have hsn : snapOf A = if x = 0 ∧ q = e then (e, t) else (0, []) := by unfold snapOf; rw [hf]
  rw [hsn]
  unfold asV
  simp only
  by_cases h0 : x = 0
  · rw [if_pos (show (x : Int) = 0 by omega)]
    by_cases h1 : q = e
    · rw [if_pos (show (q : Int) = (e : Int) by omega), if_pos (show x = 0 ∧ q = e from ⟨h0, h1⟩)]
      by_cases h2 : x6 < e
      · rw [if_pos (show (e : Int) > (x6 : Int) by omega), if_pos (show x6 < (e, t).1 from h2)]
      · rw [if_neg (show ¬ (e : Int) > (x6 : Int) by omega), if_neg (show ¬ x6 < (e, t).1 from h2)]
    · rw [if_neg (show ¬ (q : Int) = (e : Int) by omega), if_neg (show ¬ (x = 0 ∧ q = e) from fun h => h1 h.2), if_neg (show ¬ x6 < ((0, []) : Nat × Bs).1 from Nat.not_lt_zero _)]
  · rw [if_neg (show ¬ (x : Int) = 0 by omega), if_neg (show ¬ (x = 0 ∧ q = e) from fun h => h0 h.1), if_neg (show ¬ x6 < ((0, []) : Nat × Bs).1 from Nat.not_lt_zero _)]

theorem chunk {D : DS} (h : D.Ok) (i k : Nat) (hk : i + k ≤ D.olds.length) : (⟨(bytesOf D 0 D.olds.length).toArray⟩ : ByteArray).extract (64 * i) (64 * (i + k)) = ba (bytesOf D i k) := by
  have e : D.olds.length = i + (k + (D.olds.length - (i + k))) := by omega
  apply ext_list
  rw [extract_list]
  show ((bytesOf D 0 D.olds.length).take _).drop _ = bytesOf D i k
  rw [e, bytesOf_add, bytesOf_add, Nat.zero_add]
  have h1 := bytesOf_length h i 0 (by omega)
  have h2 := bytesOf_length h k i (by omega)
  rw [← List.append_assoc, List.take_append_of_le_length (by rw [List.length_append]; omega), List.take_of_length_le (by rw [List.length_append]; omega), List.drop_append_of_le_length (by omega), List.drop_of_length_le (by omega)]
  rfl

set_option maxHeartbeats 1000000 in
theorem found_some {D : DS} (h : D.Ok) (h15 : D.olds.length ≤ 1500) : ∃ l, syzygyref20_Found.f (64 * D.olds.length + 4) ⟨(bytesOf D 0 D.olds.length).toArray⟩ = some (((foundD D).1 : Int), ba (foundD D).2.1, bas l) := by
  obtain ⟨n, hn⟩ : ∃ n, n = D.olds.length := ⟨_, rfl⟩
  have hb := bytesOf_length h D.olds.length 0 (by omega)
  have hsz : (⟨(bytesOf D 0 D.olds.length).toArray⟩ : ByteArray).size = 64 * n := by rw [ba_size', hb, hn]
  obtain ⟨k, hk⟩ : ∃ k, k = slotN n := ⟨_, rfl⟩
  have hk2 : 2 * k ≤ n ∧ k ≤ 1024 := by rw [hk]; exact slot_le n
  have c0 := chunk h 0 k (by omega)
  have c1 := chunk h k k (by omega)
  have c2 := chunk h (2 * k) (n - 2 * k) (by omega)
  rw [Nat.mul_zero, Nat.zero_add] at c0
  rw [show 2 * k + (n - 2 * k) = n from by omega] at c2
  have l0 := bytesOf_length h k 0 (by omega)
  have l1 := bytesOf_length h k k (by omega)
  have l2 := bytesOf_length h (n - 2 * k) (2 * k) (by omega)
  have hfd : foundD D = pick2 (snapOf (bytesOf D 0 k)) (snapOf (bytesOf D k k)) := by unfold foundD; rw [← hn, ← hk]
  rw [← hn] at c0 c1 c2 hsz ⊢
  generalize hB : (⟨(bytesOf D 0 n).toArray⟩ : ByteArray) = B at *
  -- the end
  have fin : ∀ (x6 : Nat) (x7 : Bs), ∃ l, (if (x6 : Int) = 0 then (some ((0 : Int), (⟨#[]⟩ : ByteArray), ([] : List ByteArray))) else (if 0 ≤ (wrap64 (2 * (((64 * k : Nat)) : Int))) then (if (wrap64 (2 * ((64 * k : Nat) : Int))) ≤ (B.size : Int) then ((syzygyref19_Records.f (64 * n + 1) (B.extract ((wrap64 (2 * ((64 * k : Nat) : Int))) : Int).toNat B.size) x6).bind fun t189 => (some ((x6 : Int), ba x7, t189))) else (none)) else (none))) = some (if x6 = 0 then 0 else (x6 : Int), if x6 = 0 then ba [] else ba x7, bas l) := by
    intro x6 x7
    by_cases h0 : x6 = 0
    · refine ⟨[], ?_⟩
      rw [if_pos (by omega), if_pos h0, if_pos h0]
      rfl
    · have hw : wrap64 (2 * ((64 * k : Nat) : Int)) = ((64 * (2 * k) : Nat) : Int) := by rw [wrap_ok (by omega) (by omega)]; omega
      refine ⟨told x6 (bytesOf D (2 * k) (n - 2 * k)), ?_⟩
      rw [if_neg (by omega), hw, if_pos (by omega), if_pos (by omega), Int.toNat_natCast, hsz, c2]
      have := recs_some x6 (bytesOf D (2 * k) (n - 2 * k)) (by omega) (64 * n + 1) (by omega)
      rw [show ba (bytesOf D (2 * k) (n - 2 * k)) = ⟨(bytesOf D (2 * k) (n - 2 * k)).toArray⟩ from rfl, this, Option.bind_some, if_neg h0, if_neg h0]
  unfold syzygyref20_Found.f
  rw [hsz, show wrap64 (((64 * n : Nat) : Int) / 64) = (n : Int) from by rw [wrap_ok (by omega) (by omega)]; omega, refslot_some n (by omega), Option.bind_some, ← hk, show wrap64 (((k : Nat) : Int) * 64) = ((64 * k : Nat) : Int) from by rw [wrap_ok (by omega) (by omega)]; omega]
  rw [show (64 * n + 4) = (64 * n + 1 + 1 + 1) + 1 from by omega]
  rw [syzygyref20_Found.l0, if_pos (by omega), show wrap64 ((0 : Int) * ((64 * k : Nat) : Int)) = 0 from by rw [Int.zero_mul, wrap_ok (by omega) (by omega)], if_pos (by omega), show wrap64 ((0 : Int) + 1) = 1 from by rw [wrap_ok (by omega) (by omega)]; rfl, show wrap64 ((1 : Int) * ((64 * k : Nat) : Int)) = ((64 * k : Nat) : Int) from by rw [wrap_ok (by omega) (by omega)]; omega, if_pos (by omega), if_pos (by omega), Int.toNat_natCast, show (0 : Int).toNat = 0 from rfl, c0]
  have s0 := found_step (bytesOf D 0 k) (by omega) 0 [] (fun y z => syzygyref20_Found.l0 (64 * n + 1 + 1 + 1) B ((64 * k : Nat) : Int) y z 1)
  simp only [Int.natCast_zero] at s0
  rw [show (⟨#[]⟩ : ByteArray) = ba [] from rfl]
  suffices hsuf : ∃ l, (if 0 < (snapOf (bytesOf D 0 k)).1 then syzygyref20_Found.l0 (64 * n + 1 + 1 + 1) B ((64 * k : Nat) : Int) ((snapOf (bytesOf D 0 k)).1 : Int) (ba (snapOf (bytesOf D 0 k)).2) 1 else syzygyref20_Found.l0 (64 * n + 1 + 1 + 1) B ((64 * k : Nat) : Int) 0 (ba []) 1) = some (((foundD D).1 : Int), ba (foundD D).2.1, bas l) from by
    obtain ⟨l, hl⟩ := hsuf
    exact ⟨l, s0.trans hl⟩
  have second : ∀ (x6 : Nat) (x7 : Bs), ∃ l, syzygyref20_Found.l0 (64 * n + 1 + 1 + 1) B ((64 * k : Nat) : Int) (x6 : Int) (ba x7) 1 = if x6 < (snapOf (bytesOf D k k)).1 then some (if (snapOf (bytesOf D k k)).1 = 0 then 0 else ((snapOf (bytesOf D k k)).1 : Int), if (snapOf (bytesOf D k k)).1 = 0 then ba [] else ba (snapOf (bytesOf D k k)).2, bas l) else some (if x6 = 0 then 0 else (x6 : Int), if x6 = 0 then ba [] else ba x7, bas l) := by
    intro x6 x7
    have last : ∀ (y : Nat) (z : Bs), ∃ l, syzygyref20_Found.l0 (64 * n + 1 + 1) B ((64 * k : Nat) : Int) (y : Int) (ba z) 2 = some (if y = 0 then 0 else (y : Int), if y = 0 then ba [] else ba z, bas l) := by
      intro y z
      rw [syzygyref20_Found.l0, if_neg (by omega)]
      exact fin y z
    have s1 := found_step (bytesOf D k k) (by omega) x6 x7 (fun y z => syzygyref20_Found.l0 (64 * n + 1 + 1) B ((64 * k : Nat) : Int) y z 2)
    rw [syzygyref20_Found.l0, if_pos (by omega), show wrap64 ((1 : Int) * ((64 * k : Nat) : Int)) = ((64 * k : Nat) : Int) from by rw [wrap_ok (by omega) (by omega)]; omega, if_pos (by omega), show wrap64 ((1 : Int) + 1) = 2 from by rw [wrap_ok (by omega) (by omega)]; rfl, show wrap64 ((2 : Int) * ((64 * k : Nat) : Int)) = ((64 * (k + k) : Nat) : Int) from by rw [wrap_ok (by omega) (by omega)]; omega, if_pos (by omega), if_pos (by omega), Int.toNat_natCast, Int.toNat_natCast, c1]
    by_cases h0 : x6 < (snapOf (bytesOf D k k)).1
    · obtain ⟨l, hl⟩ := last (snapOf (bytesOf D k k)).1 (snapOf (bytesOf D k k)).2
      rw [if_pos h0] at s1
      exact ⟨l, by rw [if_pos h0]; exact s1.trans hl⟩
    · obtain ⟨l, hl⟩ := last x6 x7
      rw [if_neg h0] at s1
      exact ⟨l, by rw [if_neg h0]; exact s1.trans hl⟩
  obtain ⟨a, ha⟩ : ∃ a, a = snapOf (bytesOf D 0 k) := ⟨_, rfl⟩
  obtain ⟨b, hb'⟩ : ∃ b, b = snapOf (bytesOf D k k) := ⟨_, rfl⟩
  rw [← ha, ← hb'] at hfd
  rw [← hb'] at second
  rw [← ha, hfd]
  unfold pick2
  by_cases h0 : 0 < a.1
  · rw [if_pos h0, if_pos h0]
    obtain ⟨l, hl⟩ := second a.1 a.2
    refine ⟨l, ?_⟩
    rw [hl]
    by_cases h1 : a.1 < b.1
    · rw [if_pos h1, if_pos h1, if_neg (by omega), if_neg (by omega)]
    · rw [if_neg h1, if_neg h1, if_pos h0, if_neg (by omega), if_neg (by omega)]
  · rw [if_neg h0, if_neg h0]
    obtain ⟨l, hl⟩ := second 0 []
    refine ⟨l, ?_⟩
    rw [Int.natCast_zero] at hl
    rw [hl]
    by_cases h1 : 0 < b.1
    · rw [if_pos h1, if_pos h1, if_neg (by omega), if_neg (by omega)]
    · rw [if_neg h1, if_neg h1, if_neg h0]
      rfl

theorem found20 {D : DS} (h : D.Ok) (h15 : D.olds.length ≤ 1500) (w : World) :
    Calls Tryd.prog 43 #[.string ⟨(bytesOf D 0 D.olds.length).toArray⟩] w fun e w' => ∃ v : Value, e = .returned (.tuple #[.int .u64 (foundD D).1, .string ⟨(foundD D).2.1.toArray⟩, v]) ∧ Below w.heap.size w w' := by
  obtain ⟨l, hl⟩ := found_some h h15
  refine (syzygyref20_Found.calls _ _ _ _ _ w hl).mono ?_
  rintro e w' ⟨v, rfl, _, hb⟩
  exact ⟨v, rfl, hb⟩

set_option maxRecDepth 100000 in
set_option maxHeartbeats 2000000 in
theorem bytes20_call {w : World} {b g bm : Nat} {D : DS} (h : IsDisk w b g bm D) (hup : D.off = false) :
    Calls Tryd.prog 44 #[.pointer (some ⟨b, 0, none⟩)] w fun e w' => e = .returned (.string ⟨(bytesOf D 0 D.olds.length).toArray⟩) ∧ Below w.heap.size w w' := by
  have hn4 := h.ok.hi
  have HH := Lib.hid h
  have HUP := Lib.hid hup
  obtain ⟨n, hn⟩ : ∃ n, n = D.olds.length := ⟨_, rfl⟩
  have HL := Lib.hid (fun W (hd : IsDisk W b g bm D) => len_any hd)
  rw [← hn] at HL hn4
  rw [← hn]
  have HN := Lib.hid hn
  clear h hup hn
  go_enter Tryd.func44, Tryd.ntmps44
  go_wp2
  go_loopw [3, 4, 5, 6] (fun s i _ _ wr => ∃ m : Nat, s = .string ⟨(bytesOf D 0 m).toArray⟩ ∧ i = .int .i64 m ∧ m ≤ n ∧ Below w.heap.size w wr) (fun _ i _ _ _ => n - (intOf i).toNat)
  case atStart => exact ⟨0, rfl, rfl, Nat.zero_le _, Below.refl _ _⟩
  case round =>
    obtain ⟨m, rfl, rfl, hm2, hb⟩ := hrel
    have HB := Lib.hid hb
    have hN := HN.out
    have HLN := Lib.hid (HL.out _ (HH.out.below hb))
    clear hb
    by_cases hqn : m < n
    · have hw0 : within D (m : Int) = 0 := within_some HUP.out (by omega) (by omega)
      have hrd : Dk.read D (m : Int) = (sect D m, 0) := by unfold Dk.read; rw [if_neg (by rw [hw0]; simp), Int.toNat_natCast]
      have hra := read_any (HH.out.below HB.out) (m : Int)
      rw [hrd] at hra
      have hcat : (⟨(bytesOf D 0 m).toArray⟩ : ByteArray) ++ ⟨(sect D m).toArray⟩ = ⟨(bytesOf D 0 (m + 1)).toArray⟩ := by
        rw [bytesOf_snoc, Nat.zero_add]
        apply ext_list
        rw [ByteArray.data_append, Array.toList_append]
      have hl1 : (⟨(bytesOf D 0 m).toArray⟩ : ByteArray).size = 64 * m := by rw [ba_size', bytesOf_length HH.out.ok m 0 (by omega)]
      have hl2 : (⟨(sect D m).toArray⟩ : ByteArray).size = 64 := by rw [ba_size', sect_length HH.out.ok (by omega)]
      have HCAT := Lib.hid hcat
      have HRA := Lib.hid hra
      clear hcat hra hrd hw0 hN
      obtain ⟨s1, hs1⟩ : ∃ s1 : ByteArray, s1 = ⟨(bytesOf D 0 m).toArray⟩ := ⟨_, rfl⟩
      obtain ⟨s2, hs2⟩ : ∃ s2 : ByteArray, s2 = ⟨(sect D m).toArray⟩ := ⟨_, rfl⟩
      rw [← hs1, ← hs2] at HCAT
      rw [← hs2] at HRA hl2
      rw [← hs1] at hl1
      rw [← hs1]
      clear hs1 hs2
      go_wp2_with fail
      refine HLN.out.mono ?_
      rintro e w2 ⟨rfl, rfl⟩
      go_wp2_with fail
      refine HRA.out.mono ?_
      rintro e w3 ⟨rfl, hb3⟩
      have HB3 := Lib.hid (HB.out.trans (hb3.mono HB.out.size))
      clear hb3
      go_wp2
      rw [HCAT.out]
      go_roundw
      case rel => exact ⟨m + 1, rfl, by go_num, by omega, HB3.out⟩
      case measure => simp [intOf]; omega
    · obtain rfl : m = n := by omega
      clear hN
      go_wp2_with fail
      refine HLN.out.mono ?_
      rintro e w2 ⟨rfl, rfl⟩
      go_wp2
      go_ret
      exact ⟨rfl, HB.out⟩
end Go.Proofs.YtoafebndlldclaaDoor.St
