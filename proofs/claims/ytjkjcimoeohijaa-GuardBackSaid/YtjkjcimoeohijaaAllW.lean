/- The call of guard.All is proved: it tells just the frames that Fr.allL defines, and where they end. -/
import Derived.Test.YtjkjcimoeohijaaAllI
import Derived.RegionTactic
import Derived.RegionIn
namespace Go.Proofs.Ytjkjcimoeohijaa
open Go.RowKit Go.Shelf Fr
attribute [local go_sem] Oper.semAt_some

def enc3 (x : F4) : List Value := [.int .u64 x.2.1, .int .u64 x.2.2.1, .string (ba x.2.2.2)]
theorem info29 : (Try.prog.info? 29).map (fun i => (i.zero, i.size, i.bytes)) = some (some (.agg #[(.int .u64 0), (.int .u64 0), (.string ⟨#[]⟩)]), 3, 32) := by kernel_rfl

theorem cells_new (w : World) (l : List Value) (t : TypeId) : ∀ j u, l[j]? = some u → (w.alloc (.cells l.toArray t)).cell? ((⟨w.heap.size, 0, none⟩ : Addr).add j) = some u := by
  intro j u h
  rw [show (⟨w.heap.size, 0, none⟩ : Addr).add j = ⟨w.heap.size, j, none⟩ from by unfold Addr.add; split <;> simp_all]
  rw [World.cell?_alloc_at _ _ _ _ rfl]
  simpa using h

set_option maxRecDepth 100000 in
set_option maxHeartbeats 4000000 in
theorem all_any (s : ByteArray) (ep : Nat) (w : World) (hs : s.size ≤ 1073741824) :
    Calls Try.prog 16 #[.string s, .int .u64 ep] w fun e w' => ∃ v, e = .returned (.tuple #[v, .int .i64 ((allL ep 0 0 (G s.data.toList 0)).2 : Nat)]) ∧
      w'.ownsRow w.heap.size 29 3 v (allL ep 0 0 (G s.data.toList 0)).1.length ((allL ep 0 0 (G s.data.toList 0)).1.flatMap enc3) ∧ Below w.heap.size w w' := by
  refine (callsIn_wide (n := 6)).1 ?_
  obtain ⟨i0, hi, hz0, hz1, hz2⟩ := info_parts info29
  refine callsIn_of_wp_marks Try.func16 rfl trivial ?_ rfl
  simp only [Try.ntmps16, List.size_toArray, List.length_cons, List.length_nil, Nat.reduceAdd, Nat.reduceSub, Array.replicate_succ, Array.replicate_zero, List.push_toArray, List.append_toArray, List.nil_append, List.cons_append]
  gi_wp2_with (refine ⟨trivial, ?_⟩; gi_at_call 26; refine (callsIn_wide.2 (frames_any _ _)).mono ?_; rintro e w' ⟨rfl, rfl⟩)
  have bE := (((Boxed.new w 27 (.int .u64 ep)).alloc (.cells #[.slice none 0 0] 43)).alloc (.cells #[.int .i64 0] 3)).alloc (.cells #[.string s] 9)
  have bL := ((Boxed.new (w.alloc (.cells #[.int .u64 ep] 27)) 43 (.slice none 0 0)).alloc (.cells #[.int .i64 0] 3)).alloc (.cells #[.string s] 9)
  have bN := (Boxed.new ((w.alloc (.cells #[.int .u64 ep] 27)).alloc (.cells #[.slice none 0 0] 43)) 3 (.int .i64 0)).alloc (.cells #[.string s] 9)
  have bS := Boxed.new (((w.alloc (.cells #[.int .u64 ep] 27)).alloc (.cells #[.slice none 0 0] 43)).alloc (.cells #[.int .i64 0] 3)) 9 (.string s)
  simp only [World.size_alloc] at bL bN bS
  have hB0 : Below w.heap.size w ((((w.alloc (.cells #[.int .u64 ep] 27)).alloc (.cells #[.slice none 0 0] 43)).alloc (.cells #[.int .i64 0] 3)).alloc (.cells #[.string s] 9)) :=
    ((((Below.refl _ w).alloc (Nat.le_refl _) _).alloc (by simp) _).alloc (by simp; omega) _).alloc (by simp; omega) _
  have hsz : ((((w.alloc (.cells #[.int .u64 ep] 27)).alloc (.cells #[.slice none 0 0] 43)).alloc (.cells #[.int .i64 0] 3)).alloc (.cells #[.string s] 9)).heap.size = w.heap.size + 4 := by simp
  obtain ⟨W0, hW0⟩ : ∃ W0, (((w.alloc (.cells #[.int .u64 ep] 27)).alloc (.cells #[.slice none 0 0] 43)).alloc (.cells #[.int .i64 0] 3)).alloc (.cells #[.string s] 9) = W0 := ⟨_, rfl⟩
  rw [hW0] at bE bL bN bS hB0 hsz ⊢
  clear hW0
  obtain ⟨b, hb⟩ : ∃ b, w.heap.size = b := ⟨_, rfl⟩
  rw [hb] at bE bL bN bS hB0 hsz ⊢
  rw [show b + 1 + 1 = b + 2 from rfl] at bN ⊢
  rw [show b + 2 + 1 = b + 3 from rfl] at bS ⊢
  have hI : OwnFrom W0.heap.size (fun (pre : List F4) W => ((((goods ep 0 pre ∧ ∃ v, Boxed W (b + 1) 43 v ∧ W.ownsRow b 29 3 v pre.length (pre.flatMap enc3) ∧ True) ∧ Boxed W (b + 2) 3 (.int .i64 (lastEnd 0 pre : Nat))) ∧ Boxed W b 27 (.int .u64 ep)) ∧ Boxed W (b + 3) 9 (.string s)) ∧ Below b w W) :=
    OwnFrom.and (OwnFrom.and (OwnFrom.and (OwnFrom.and (OwnFrom.and (ownFrom_pure _ _) (Own.from (holdsRow_own b (b + 1) 43 29 3 (fun (pre : List F4) => pre.length) (fun pre => pre.flatMap enc3) (fun _ _ => True)) _))
      (Own.from (boxed_own _ _ (fun (pre : List F4) => Value.int .i64 (lastEnd 0 pre : Nat))) _)) (Own.from (boxed_own _ _ _) _)) (Own.from (boxed_own _ _ _) _)) (ownFrom_below (by omega) (by omega))
  refine wpIn_rangeFunc_ownH rfl (by omega) (gf := 28) (lb := #[.pointer (some ⟨b + 3, 0, none⟩)]) rfl trivial (enters_of Try.func28 (by kernel_rfl) rfl)
    (frames_stops 5 (by omega) (b + 3) s hs W0 bS) (Kp := KpB (b + 3)) (fun h k => k.trans h) (fun W l o o' hl h _ _ => World.putObj_heap_other (by omega)) (Below.refl _ _) (fun _ => rfl)
    (fun pre W => ((((goods ep 0 pre ∧ ∃ v, Boxed W (b + 1) 43 v ∧ W.ownsRow b 29 3 v pre.length (pre.flatMap enc3) ∧ True) ∧ Boxed W (b + 2) 3 (.int .i64 (lastEnd 0 pre : Nat))) ∧ Boxed W b 27 (.int .u64 ep)) ∧ Boxed W (b + 3) 9 (.string s)) ∧ Below b w W)
    (fun c pre W => c = .exit 0 ∧ ∃ pre' x, pre = pre' ++ [x] ∧ good ep pre'.length x = false ∧ ((((goods ep 0 pre' ∧ ∃ v, Boxed W (b + 1) 43 v ∧ W.ownsRow b 29 3 v pre'.length (pre'.flatMap enc3) ∧ True) ∧ Boxed W (b + 2) 3 (.int .i64 (lastEnd 0 pre' : Nat))) ∧ Boxed W b 27 (.int .u64 ep)) ∧ Boxed W (b + 3) 9 (.string s)) ∧ Below b w W)
    hI (fun c pre X Y row hs2 hg hr => by
      obtain ⟨hc, pre', x, hp, hgd, hrest⟩ := hs2
      exact ⟨hc, pre', x, hp, hgd, hI pre' X Y row hrest hg hr⟩)
    ⟨⟨⟨⟨⟨trivial, _, bL, World.ownsRow_nil _ _ _ _, trivial⟩, bN⟩, bE⟩, bS⟩, hB0⟩
    (fun x a' W => ∃ Bx, b + 3 < Bx ∧ W.heap[Bx]? = some (.cells #[.int .u64 x.2.1, .int .u64 x.2.2.1, .string (ba x.2.2.2)] 29 (0, 0)) ∧
      a' = { tmps := #[.string s, .int .u64 ep, undef, .pointer (some ⟨b, 0, none⟩), .pointer (some ⟨b + 1, 0, none⟩), .pointer (some ⟨b + 2, 0, none⟩), .int .i64 x.1, .pointer (some ⟨Bx, 0, none⟩), .string s, .func (.func 28) #[] #[.pointer (some ⟨b + 3, 0, none⟩)],
        .int .i64 x.1, .agg #[.int .u64 x.2.1, .int .u64 x.2.2.1, .string (ba x.2.2.2)], undef, undef, undef, undef, undef, undef, undef, undef, undef, undef, undef, undef, undef, undef, undef, undef, undef, undef, undef, undef], defers := [] })
    (fun x a' _ X Y row hs2 hg hr => by
      obtain ⟨Bx, e1, e2, e3⟩ := hs2
      refine ⟨Bx, e1, ?_, e3⟩
      rw [hg.block Bx (Array.getElem?_eq_some_iff.1 e2).1 (fun h => ?_)]
      · exact e2
      · obtain ⟨o, ho, hc⟩ := (hr Bx h.symm).2
        rw [e2] at ho; cases ho; cases hc)
    ?assign ?body ?done ?stop
  case assign =>
    rintro l pre x W K ⟨⟨⟨⟨⟨hgd, v, hv, hrow, _⟩, hn⟩, he⟩, hsb⟩, hB⟩ hK
    obtain ⟨en, q, e, t⟩ := x
    simp only [encF]
    gi_wp2
    exact hK _ _ ((KeepsOthers.alloc _ _).from _) (Below.heap_alloc W _ _ hsb.lt) ⟨⟨⟨⟨⟨hgd, v, hv.alloc _, hrow.alloc _, trivial⟩, hn.alloc _⟩, he.alloc _⟩, hsb.alloc _⟩, hB.alloc (by have := hB.size; omega) _⟩
      ⟨W.heap.size, hsb.lt, World.alloc_heap_new W _, rfl⟩
  case body =>
    rintro l pre x a' W hl ⟨r, hr⟩ ⟨⟨⟨⟨⟨hgd, v, hv, hrow, _⟩, hn⟩, he⟩, hsb⟩, hB⟩ ⟨Bx, hBx, hx, rfl⟩ hlt
    obtain ⟨en, q, e, t⟩ := x
    dsimp only at hx ⊢
    have c1 := hv.cell
    have c2 := hn.cell
    have c3 := he.cell
    have cx0 : W.cell? ⟨Bx, 0, none⟩ = some (.int .u64 q) := by simp [World.cell?, hx]
    have cx1 : W.cell? ⟨Bx, 1, none⟩ = some (.int .u64 e) := by simp [World.cell?, hx]
    have cx2 : W.cell? ⟨Bx, 2, none⟩ = some (.string (ba t)) := by simp [World.cell?, hx]
    by_cases h1 : e = ep
    · by_cases h2 : q = pre.length + 1
      · have t1 : ((e : Int) != (ep : Int)) = false := by simp [h1]
        have t2 : ((q : Int) != ((pre.length : Int) + 1)) = false := by rw [bne_eq_false_iff_eq]; omega
        have hgood : good ep (0 + pre.length) (en, q, e, t) = true := by simp [good, h1, h2]
        have HGS := Lib.hid (goods_snoc ep pre 0 (en, q, e, t) hgd hgood)
        have HLE := Lib.hid (lastEnd_snoc pre 0 (en, q, e, t))
        have HFM : Hid ((pre ++ [(en, q, e, t)]).flatMap enc3 = pre.flatMap enc3 ++ [.int .u64 q, .int .u64 e, .string (ba t)]) := by
          show _ = _
          rw [List.flatMap_append]; rfl
        clear hgood h1 h2
        have hlen : ∃ A c, v = .slice A pre.length c := by
          rcases hrow.2 with ⟨rfl, hz⟩ | ⟨g, c, cur, rfl, _⟩
          · exact ⟨none, 0, by rw [hz]⟩
          · exact ⟨_, c, rfl⟩
        obtain ⟨A, c, rfl⟩ := hlen
        have hpl : pre.length ≤ 1073741824 := by omega
        have hbW := hB.size
        gi_wp2_with (gi_at_builtin; refine wpListIn_append_own _ rfl _ _ 43 rfl b 29 i0 (.agg #[.int .u64 0, .int .u64 0, .string ⟨#[]⟩]) 3 32 Try.underlying43 hi hz0 hz1 hz2 rfl (by decide) _ _ _ rfl (hrow.alloc _) ⟨W.heap.size, 0, none⟩ 1 1 [.int .u64 q, .int .u64 e, .string (ba t)] rfl rfl (cells_new _ _ _) (by simp [Value.oneCell']) (by unfold maxLen; omega) (by omega) (by simp; omega) ?_; intro v' w1 hown' hgrow _; obtain ⟨g', cap', rfl⟩ := ownsRow_succ hown'; obtain ⟨hv1, hv2, hr2, hk2, hb2⟩ := hv.appended (by decide) hrow (by omega) (by omega) hown' hgrow; have hc1 := hv1.cell; have hf1 := hv1.frozen; have hn1 := (hn.alloc (.cells #[.int .u64 q, .int .u64 e, .string (ba t)] 29)).kept hgrow (hn.not_row (by decide) hrow); have hc2 := hn1.cell; have hf2 := hn1.frozen)
        have hn2 := hn1.other (B' := b + 1) (by omega) (.slice (some ⟨g', 0, none⟩) (pre.length + 1) cap')
        have he2 := ((he.alloc (.cells #[.int .u64 q, .int .u64 e, .string (ba t)] 29)).kept hgrow (he.not_row (by decide) hrow)).other (B' := b + 1) (by omega) (.slice (some ⟨g', 0, none⟩) (pre.length + 1) cap')
        have hs2 := ((hsb.alloc (.cells #[.int .u64 q, .int .u64 e, .string (ba t)] 29)).kept hgrow (hsb.not_row (by decide) hrow)).other (B' := b + 1) (by omega) (.slice (some ⟨g', 0, none⟩) (pre.length + 1) cap')
        have hs3 := hs2.other (B' := b + 2) (by omega) (.int .i64 en)
        refine ⟨(hk2.trans (KeepsOthers.setCell _ _ _)).from _, hs3.trans hsb.symm, ⟨⟨⟨⟨by simpa using HGS.out, _, hv2.other (B' := b + 2) (by omega) _, ?_⟩, ?_⟩, he2.other (B' := b + 2) (by omega) _⟩, hs3⟩, hB.trans (hb2.setCell (p := ⟨b + 2, 0, none⟩) (by show b ≤ b + 2; omega) _)⟩
        · rw [HFM.out, List.length_append]
          exact hr2.kept (grownBy_setCell' _ (b + 2) _) (.inr (hn2.not_row (by decide) hr2).symm)
        · rw [HLE.out]
          exact hn2.set _
      · have t1 : ((e : Int) != (ep : Int)) = false := by simp [h1]
        have t2 : ((q : Int) != ((pre.length : Int) + 1)) = true := by rw [bne_iff_ne]; omega
        have hbad : good ep pre.length (en, q, e, t) = false := by simp [good, h2]
        have HBD := Lib.hid hbad
        clear hbad
        have hlen : ∃ A c, v = .slice A pre.length c := by
          rcases hrow.2 with ⟨rfl, hz⟩ | ⟨g, c, cur, rfl, _⟩
          · exact ⟨none, 0, by rw [hz]⟩
          · exact ⟨_, c, rfl⟩
        obtain ⟨A, c, rfl⟩ := hlen
        have hpl : pre.length ≤ 1073741824 := by omega
        gi_wp2
        exact ⟨KeepsFrom.refl _ _, rfl, pre, (en, q, e, t), rfl, HBD.out, ⟨⟨⟨⟨hgd, _, hv, hrow, trivial⟩, hn⟩, he⟩, hsb⟩, hB⟩
    · have t1 : ((e : Int) != (ep : Int)) = true := by rw [bne_iff_ne]; omega
      have hbad : good ep pre.length (en, q, e, t) = false := by simp [good, h1]
      have HBD := Lib.hid hbad
      clear hbad
      gi_wp2
      exact ⟨KeepsFrom.refl _ _, rfl, pre, (en, q, e, t), rfl, HBD.out, ⟨⟨⟨⟨hgd, v, hv, hrow, trivial⟩, hn⟩, he⟩, hsb⟩, hB⟩
  case done =>
    rintro D xs W hD hxs ⟨⟨⟨⟨⟨hgd, v, hv, hrow, _⟩, hn⟩, he⟩, hsb⟩, hB⟩ hK
    have hA := allL_goods ep xs 0 0 [] hgd
    rw [List.append_nil] at hA
    simp only [allL, List.append_nil] at hA
    have HA := Lib.hid hA
    have HXS := Lib.hid hxs
    clear hA hxs
    have hlen : ∃ A c, v = .slice A xs.length c := by
      rcases hrow.2 with ⟨rfl, hz⟩ | ⟨g, c, cur, rfl, _⟩
      · exact ⟨none, 0, by rw [hz]⟩
      · exact ⟨_, c, rfl⟩
    obtain ⟨A, c, rfl⟩ := hlen
    have c1 := hv.cell
    have c2 := hn.cell
    have f1 := hv.frozen
    have f2 := hn.frozen
    gi_wp2
    gi_region
    all_goals gi_wp2
    have hbW := hB.size
    have hK2 : (((W.setCell ⟨b + 1, 0, none⟩ (.slice A xs.length c)).setCell ⟨b + 2, 0, none⟩ (.int .i64 (lastEnd 0 xs : Nat))).drew).heap[D]? = some (.deferred (some [])) := by
      show ((W.setCell ⟨b + 1, 0, none⟩ (.slice A xs.length c)).setCell ⟨b + 2, 0, none⟩ (.int .i64 (lastEnd 0 xs : Nat))).heap[D]? = _
      rw [Below.heap_setCell _ _ _ _ (by show D ≠ b + 2; omega), Below.heap_setCell _ _ _ _ (by show D ≠ b + 1; omega)]; exact hK
    refine ⟨by simp, .inl ⟨_, _, rfl, run_takeDeferred hK2, ?_⟩⟩
    have v1 := hv.set (.slice A xs.length c)
    have v2 := v1.other (B' := b + 2) (by omega) (.int .i64 (lastEnd 0 xs : Nat))
    have n1 := (hn.other (B' := b + 1) (by omega) (.slice A xs.length c)).set (.int .i64 (lastEnd 0 xs : Nat))
    have r2 := (hrow.kept (grownBy_setCell' W (b + 1) (.slice A xs.length c)) (.inr (hv.not_row (by decide) hrow).symm)).kept (grownBy_setCell' _ (b + 2) (.int .i64 (lastEnd 0 xs : Nat)))
      (.inr ((hn.other (B' := b + 1) (by omega) (.slice A xs.length c)).not_row (by decide) (hrow.kept (grownBy_setCell' W (b + 1) (.slice A xs.length c)) (.inr (hv.not_row (by decide) hrow).symm))).symm)
    have b2 : Below b w ((W.setCell ⟨b + 1, 0, none⟩ (.slice A xs.length c)).setCell ⟨b + 2, 0, none⟩ (.int .i64 (lastEnd 0 xs : Nat))) :=
      (hB.setCell (p := ⟨b + 1, 0, none⟩) (by show b ≤ b + 1; omega) _).setCell (p := ⟨b + 2, 0, none⟩) (by show b ≤ b + 2; omega) _
    generalize (W.setCell ⟨b + 1, 0, none⟩ (.slice A xs.length c)).setCell ⟨b + 2, 0, none⟩ (.int .i64 (lastEnd 0 xs : Nat)) = W3 at *
    have e1 := ((show Boxed W3.drew (b + 1) 43 (.slice A xs.length c) from v2).kept (grownBy_putObj' W3.drew D (.deferred none)) (by simp; omega)).cell
    have e2 := ((show Boxed W3.drew (b + 2) 3 (.int .i64 (lastEnd 0 xs : Nat)) from n1).kept (grownBy_putObj' W3.drew D (.deferred none)) (by simp; omega)).cell
    refine ⟨.tuple #[.slice A xs.length c, .int .i64 (lastEnd 0 xs : Nat)], ?_, .slice A xs.length c, ?_, ?_, ?_⟩
    · simp [results, Try.results16, go_sem, e1, e2]
    · rw [← HXS.out, HA.out]
    · rw [← HXS.out, HA.out, hb]
      exact ownsRow_putObj (W := W3) r2 _ hK2 rfl
    · rw [hb]
      exact b2.drew.grown (grownBy_putObj' W3.drew D (.deferred none)) (by have := b2.size; show b ≤ W3.heap.size; omega) (fun k e => by cases e; omega)
  case stop =>
    rintro D c pre W hD hpre ⟨rfl, xs, x, rfl, hbad, ⟨⟨⟨⟨hgd, v, hv, hrow, _⟩, hn⟩, he⟩, hsb⟩, hB⟩ hK
    obtain ⟨r, hr⟩ := hpre
    have hA := allL_goods ep xs 0 0 (x :: r) hgd
    simp only [allL, Nat.zero_add, hbad, Bool.false_eq_true, if_false, List.append_nil] at hA
    rw [show xs ++ x :: r = G s.data.toList 0 from by rw [← hr]; simp] at hA
    have HA := Lib.hid hA
    have HBD := Lib.hid hbad
    clear hA hbad hr
    have hlen : ∃ A c, v = .slice A xs.length c := by
      rcases hrow.2 with ⟨rfl, hz⟩ | ⟨g, c, cur, rfl, _⟩
      · exact ⟨none, 0, by rw [hz]⟩
      · exact ⟨_, c, rfl⟩
    obtain ⟨A, c, rfl⟩ := hlen
    have c1 := hv.cell
    have c2 := hn.cell
    have f1 := hv.frozen
    have f2 := hn.frozen
    gi_wp2
    gi_region
    all_goals gi_wp2
    have hbW := hB.size
    have hK2 : (((W.setCell ⟨b + 1, 0, none⟩ (.slice A xs.length c)).setCell ⟨b + 2, 0, none⟩ (.int .i64 (lastEnd 0 xs : Nat))).drew).heap[D]? = some (.deferred (some [])) := by
      show ((W.setCell ⟨b + 1, 0, none⟩ (.slice A xs.length c)).setCell ⟨b + 2, 0, none⟩ (.int .i64 (lastEnd 0 xs : Nat))).heap[D]? = _
      rw [Below.heap_setCell _ _ _ _ (by show D ≠ b + 2; omega), Below.heap_setCell _ _ _ _ (by show D ≠ b + 1; omega)]; exact hK
    refine ⟨by simp, .inl ⟨_, _, rfl, run_takeDeferred hK2, ?_⟩⟩
    have v1 := hv.set (.slice A xs.length c)
    have v2 := v1.other (B' := b + 2) (by omega) (.int .i64 (lastEnd 0 xs : Nat))
    have n1 := (hn.other (B' := b + 1) (by omega) (.slice A xs.length c)).set (.int .i64 (lastEnd 0 xs : Nat))
    have r2 := (hrow.kept (grownBy_setCell' W (b + 1) (.slice A xs.length c)) (.inr (hv.not_row (by decide) hrow).symm)).kept (grownBy_setCell' _ (b + 2) (.int .i64 (lastEnd 0 xs : Nat)))
      (.inr ((hn.other (B' := b + 1) (by omega) (.slice A xs.length c)).not_row (by decide) (hrow.kept (grownBy_setCell' W (b + 1) (.slice A xs.length c)) (.inr (hv.not_row (by decide) hrow).symm))).symm)
    have b2 : Below b w ((W.setCell ⟨b + 1, 0, none⟩ (.slice A xs.length c)).setCell ⟨b + 2, 0, none⟩ (.int .i64 (lastEnd 0 xs : Nat))) :=
      (hB.setCell (p := ⟨b + 1, 0, none⟩) (by show b ≤ b + 1; omega) _).setCell (p := ⟨b + 2, 0, none⟩) (by show b ≤ b + 2; omega) _
    generalize (W.setCell ⟨b + 1, 0, none⟩ (.slice A xs.length c)).setCell ⟨b + 2, 0, none⟩ (.int .i64 (lastEnd 0 xs : Nat)) = W3 at *
    have e1 := ((show Boxed W3.drew (b + 1) 43 (.slice A xs.length c) from v2).kept (grownBy_putObj' W3.drew D (.deferred none)) (by simp; omega)).cell
    have e2 := ((show Boxed W3.drew (b + 2) 3 (.int .i64 (lastEnd 0 xs : Nat)) from n1).kept (grownBy_putObj' W3.drew D (.deferred none)) (by simp; omega)).cell
    refine ⟨.tuple #[.slice A xs.length c, .int .i64 (lastEnd 0 xs : Nat)], ?_, .slice A xs.length c, ?_, ?_, ?_⟩
    · simp [results, Try.results16, go_sem, e1, e2]
    · rw [HA.out]
    · rw [HA.out, hb]
      exact ownsRow_putObj (W := W3) r2 _ hK2 rfl
    · rw [hb]
      exact b2.drew.grown (grownBy_putObj' W3.drew D (.deferred none)) (by have := b2.size; show b ≤ W3.heap.size; omega) (fun k e => by cases e; omega)

end Go.Proofs.Ytjkjcimoeohijaa
