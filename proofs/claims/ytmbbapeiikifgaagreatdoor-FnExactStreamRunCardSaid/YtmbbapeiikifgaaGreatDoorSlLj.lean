/- slices.Insert at []int by the library's contracts. -/
import Derived.Test.YtmbbapeiikifgaaGreatDoorSlLi
import Derived.Shelf.Spec.SlicesInsert
import Derived.Shelf.Spec.SlicesInsertGrow
namespace Go.Proofs.YtmbbapeiikifgaaGreatDoor
open Go Go.Shelf
theorem ones_int (xs : List Int) : ∀ v ∈ xs.map (Value.int .i64), v.oneCell' = true := by
  intro v hv
  obtain ⟨x, _, rfl⟩ := List.mem_map.1 hv
  rfl
theorem cells_int {w : World} {g : Nat} {cur : Array Value} {e : TypeId} {fr : Nat × Nat} (hg : w.heap[g]? = some (.cells cur e fr)) {xs : List Int} (hc : ∀ (j : Nat) (x : Int), xs[j]? = some x → cur[j]? = some (Value.int .i64 x)) :
    ∀ (j : Nat) v, (xs.map (Value.int .i64))[j]? = some v → w.cell? ⟨g, 0 + j, none⟩ = some v := by
  intro j v hj
  simp only [List.getElem?_map, Option.map_eq_some_iff] at hj
  obtain ⟨x, hx, rfl⟩ := hj
  rw [Nat.zero_add]
  exact cell_iff.2 ⟨cur, e, fr, hg, hc j x hx⟩
theorem alloc_get (w : World) (ob : Obj) : (w.drew.alloc ob).heap[w.heap.size]? = some ob ∧ (∀ k, k < w.heap.size → (w.drew.alloc ob).heap[k]? = w.heap[k]?) ∧ w.heap.size ≤ (w.drew.alloc ob).heap.size := by
  refine ⟨push_get w ob, fun k hk => ?_, ?_⟩
  · show (w.heap.push ob)[k]? = w.heap[k]?
    simp [Array.getElem?_push, Nat.ne_of_lt hk]
  · show w.heap.size ≤ (w.heap.push ob).size
    simp
theorem grown_get {zs : List Int} {n cap : Nat} (hn : zs.length = n) (hc : n ≤ cap) {A : Array Value} (hA : A = (zs.map (Value.int .i64)).toArray ++ Builtin.zeroCells (Value.int .i64 0).cells (cap - n)) :
    A.size = cap ∧ ∀ (j : Nat) (x : Int), zs[j]? = some x → A[j]? = some (Value.int .i64 x) := by
  subst hA
  refine ⟨by simp [Builtin.zeroCells, Value.cells]; omega, fun j x hj => ?_⟩
  have hlt := (List.getElem?_eq_some_iff.1 hj).1
  rw [Array.getElem?_append_left (by simp; exact hlt)]
  simp [hj]
theorem ins_calls {P : Program} {ρ : Ren} (L : Lays2.n21 P ρ) (w : World) (xs ys : List Int) (p q : Pl) (i : Nat) (hp : RowOwn w (.int .i64) xs p) (hq : RowOwn w (.int .i64) ys q) (hd : Disj p.S q.S) (hi : i ≤ xs.length) (hm : 0 < ys.length)
    (hbig : (xs.length + ys.length) * 8 ≤ 140737488355328) :
    Calls P (ρ.f 21) #[.slice p.av p.len p.cap, .int .i64 i, .slice q.av q.len q.cap] w (fun e w' => InsEnd w (p.av.map (·.block)) (xs.take i ++ ys ++ xs.drop i) e w') := by
  obtain ⟨hpl, hp⟩ := rowInt hp
  obtain ⟨hql, hq⟩ := rowInt hq
  rcases hq with ⟨_, _, rfl⟩ | ⟨gq, cq, eq, hqa, hgq, hqs, ⟨hqc, _⟩, hqx, hqS⟩
  · simp at hm
  have hys := cells_int hgq hqx
  have hlen : (xs.take i ++ ys ++ xs.drop i).length = xs.length + ys.length := by simp; omega
  have hmap : ∀ (l : List Int), (l.map (Value.int .i64)).length = l.length := fun l => by simp
  rw [hpl, hql, hqa]
  rcases hp with ⟨hpa, hpc, rfl⟩ | ⟨gp, cp, ep, hpa, hgp, hps, ⟨hpc, hpm⟩, hpx, hpS⟩
  ·
    simp only [List.length_nil, Nat.le_zero] at hi
    subst hi
    rw [hpa, hpc]
    refine (Any2.slices_Insert_int_end_grow L none 0 0 gq 0 ys.length q.cap [] (ys.map (Value.int .i64)) w hm (Nat.le_refl _) (by omega) (by simpa using hbig) rfl (hmap ys) (fun _ => rfl) (fun a h => by cases h) hys (ones_int ys)).mono ?_
    rintro e w' ⟨rfl, rfl⟩
    have hge := grownCap_ge w (0 + ys.length) 0 (ρ.t 3)
    have hle := grownCap_le_maxLen w (0 + ys.length) 0 (ρ.t 3) (by simp only [Go.maxLen]; omega)
    simp only [Go.maxLen] at hle
    obtain ⟨a1, a2, a3⟩ := alloc_get w (.cells (([] ++ ys.map (Value.int .i64)).toArray ++ Builtin.zeroCells (Value.int .i64 0).cells (grownCap w (0 + ys.length) 0 (ρ.t 3) - (0 + ys.length))) (ρ.t 3))
    obtain ⟨b1, b2⟩ := grown_get (zs := ys) (n := 0 + ys.length) (by omega) hge rfl
    refine ⟨w.heap.size, _, ρ.t 3, ?_, a1, ?_, fun j x hj => ?_, ⟨rfl, rfl, rfl, a3, fun k hk => .inl (a2 k hk)⟩, .inr (Nat.le_refl _)⟩
    · rw [List.nil_append, b1, hlen]; rfl
    · rw [List.nil_append, b1, hlen]; exact ⟨by simp only [List.length_nil]; omega, by omega⟩
    · exact b2 j x (by simpa using hj)
  · have hxs := cells_int hgp hpx
    have hne : gq ≠ gp := fun h => hd gp 0 ((hpS gp 0).2 rfl) ((hqS gp 0).2 h.symm)
    have hplt := (Array.getElem?_eq_some_iff.1 hgp).1
    rw [hpa]
    have hfr : ∀ j, w.frozen? ⟨gp, j, none⟩ = false := fun j => frozen_of_row w gp _ cp ep hgp
    have hfq : ∀ j, w.frozen? ⟨gq, j, none⟩ = false := fun j => frozen_of_row w gq _ cq eq hgq
    have hsome : ∀ j, j < p.cap → (w.cell? ⟨gp, 0 + j, none⟩).isSome = true := fun j hj => by
      have : j < cp.size := by omega
      rw [Nat.zero_add, cell_iff.2 ⟨cp, ep, (0, 0), hgp, Array.getElem?_eq_getElem this⟩]; rfl
    by_cases hroom : xs.length + ys.length ≤ p.cap
    ·
      have hend : ∀ w1 c1, w1.heap[gp]? = some (.cells c1 ep (0, 0)) → c1.size = cp.size → (∀ (j : Nat) (x : Int), (xs.take i ++ ys ++ xs.drop i)[j]? = some x → c1[j]? = some (Value.int .i64 x)) →
          (∀ k, k ≠ gp → w1.heap[k]? = w.heap[k]?) → w1.heap.size = w.heap.size → w1.os = w.os → w1.tape = w.tape → w1.output = w.output →
          InsEnd w (some gp) (xs.take i ++ ys ++ xs.drop i) (.returned (.slice (some ⟨gp, 0, none⟩) (xs.length + ys.length) p.cap)) w1 := by
        intro w1 c1 hg1 hs1 hx1 ho1 hz1 h5 h6 h7
        refine ⟨gp, c1, ep, by rw [hlen, hs1, hps], hg1, by rw [hlen]; omega, hx1, ⟨h5, h6, h7, by omega, fun k hk => ?_⟩, .inl rfl⟩
        by_cases hkg : k = gp
        · subst hkg
          exact .inr (.inl ⟨cp, c1, ep, (0, 0), hgp, hg1, hs1, fun j hj => absurd rfl hj⟩)
        · exact .inl (ho1 k hkg)
      by_cases hin : i = xs.length
      · subst hin
        refine (Any2.slices_Insert_int_end_room L gp 0 xs.length p.cap gq 0 ys.length q.cap (ys.map (Value.int .i64)) w hm hroom hpm (hmap ys) (fun j hj => by have := hsome (xs.length + j) (by omega); rwa [← Nat.add_assoc] at this) (fun j _ => hfr _) hys (ones_int ys)).mono ?_
        rintro e w' ⟨rfl, rfl⟩
        obtain ⟨c1, h1, h2, h3, h4, h5, h6, h7, h8, h9⟩ := setCells_get (ys.map (Value.int .i64)) (0 + xs.length) w hgp (by simp; omega)
        refine hend _ c1 h1 h2 (fun j x hj => ?_) h5 h6 h7 h8 h9
        rcases ins_get (Nat.le_refl xs.length) hj with ⟨hj1, hx⟩ | ⟨r, rfl, hx⟩ | ⟨r, rfl, hx⟩
        · rw [h3 j (by omega)]; exact hpx j x hx
        · have := h4 r (.int .i64 x) (by simp [hx])
          rwa [Nat.zero_add] at this
        · simp at hx
      · refine (Any2.slices_Insert_int_shift L gp 0 xs.length p.cap i gq 0 ys.length q.cap (xs.map (Value.int .i64)) (ys.map (Value.int .i64)) w (by omega) hm hroom hpm hne (hmap xs) (hmap ys) hxs (fun j hj => hsome j (by omega)) (fun j _ => hfr _) hys (ones_int xs) (ones_int ys)
          eq ep cq.size cp.size (by simp [World.shape?, hgq]) (by simp [World.shape?, hgp]) (by omega) (hfq _) (hfq _)).mono ?_
        rintro e w' ⟨rfl, rfl⟩
        have hd1 : ((xs.map (Value.int .i64)).drop i).length = xs.length - i := by simp
        obtain ⟨c1, h1, h2, h3, h4, h5, h6, h7, h8, h9⟩ := setCells_get ((xs.map (Value.int .i64)).drop i) (0 + (i + ys.length)) w.drew (c := cp) (e := ep) (fr := (0, 0)) hgp (by rw [hd1]; omega)
        obtain ⟨c2, g1, g2, g3, g4, g5, g6, g7, g8, g9⟩ := setCells_get (ys.map (Value.int .i64)) (0 + i) (w.drew.setCells gp (0 + (i + ys.length)) ((xs.map (Value.int .i64)).drop i)) h1 (by simp; omega)
        refine hend _ c2 g1 (by rw [g2, h2]) (fun j x hj => ?_) (fun k hk => by rw [g5 k hk, h5 k hk]; rfl) (by rw [g6, h6]; rfl) (by rw [g7, h7]; rfl) (by rw [g8, h8]; rfl) (by rw [g9, h9]; rfl)
        rcases ins_get hi hj with ⟨hj1, hx⟩ | ⟨r, rfl, hx⟩ | ⟨r, rfl, hx⟩
        · rw [g3 j (by omega), h3 j (by omega)]; exact hpx j x hx
        · have := g4 r (.int .i64 x) (by simp [hx])
          rwa [Nat.zero_add] at this
        · rw [g3 _ (by simp only [List.length_map]; omega)]
          have := h4 r (.int .i64 x) (by rw [← List.map_drop, List.getElem?_map, hx]; rfl)
          rwa [Nat.zero_add] at this
    ·
      have hge := grownCap_ge w (xs.length + ys.length) p.cap (ρ.t 3)
      have hle := grownCap_le_maxLen w (xs.length + ys.length) p.cap (ρ.t 3) (by simp only [Go.maxLen]; omega)
      simp only [Go.maxLen] at hle
      have hend : ∀ w1 (c1 : Array Value), w1.heap[w.heap.size]? = some (.cells c1 (ρ.t 3) (0, 0)) → c1.size = grownCap w (xs.length + ys.length) p.cap (ρ.t 3) → (∀ (j : Nat) (x : Int), (xs.take i ++ ys ++ xs.drop i)[j]? = some x → c1[j]? = some (Value.int .i64 x)) →
          (∀ k, k < w.heap.size → w1.heap[k]? = w.heap[k]?) → w.heap.size ≤ w1.heap.size → w1.os = w.os → w1.tape = w.tape → w1.output = w.output →
          InsEnd w (some gp) (xs.take i ++ ys ++ xs.drop i) (.returned (.slice (some ⟨w.heap.size, 0, none⟩) (xs.length + ys.length) (grownCap w (xs.length + ys.length) p.cap (ρ.t 3)))) w1 := by
        intro w1 c1 hg1 hs1 hx1 ho1 hz1 h5 h6 h7
        exact ⟨w.heap.size, c1, ρ.t 3, by rw [hlen, hs1], hg1, by rw [hlen, hs1]; omega, hx1, ⟨h5, h6, h7, hz1, fun k hk => .inl (ho1 k hk)⟩, .inr (Nat.le_refl _)⟩
      by_cases hin : i = xs.length
      · subst hin
        refine (Any2.slices_Insert_int_end_grow L (some ⟨gp, 0, none⟩) xs.length p.cap gq 0 ys.length q.cap (xs.map (Value.int .i64)) (ys.map (Value.int .i64)) w hm hpc (by omega) hbig (hmap xs) (hmap ys) (fun h => by cases h) (fun a ha j v hj => by cases ha; rw [addr_add]; exact hxs j v hj) hys (ones_int ys)).mono ?_
        rintro e w' ⟨rfl, rfl⟩
        obtain ⟨a1, a2, a3⟩ := alloc_get w (.cells ((xs.map (Value.int .i64) ++ ys.map (Value.int .i64)).toArray ++ Builtin.zeroCells (Value.int .i64 0).cells (grownCap w (xs.length + ys.length) p.cap (ρ.t 3) - (xs.length + ys.length))) (ρ.t 3))
        obtain ⟨b1, b2⟩ := grown_get (zs := xs ++ ys) (n := xs.length + ys.length) (by simp) hge rfl
        rw [← List.map_append] at a1 a2 a3
        refine hend _ _ (by rw [← List.map_append]; exact a1) b1 (fun j x hj => b2 j x (by simpa using hj)) (by rw [← List.map_append]; exact a2) (by rw [← List.map_append]; exact a3) rfl rfl rfl
      · refine (Any2.slices_Insert_int_grow L gp 0 xs.length p.cap i gq 0 ys.length q.cap (xs.map (Value.int .i64)) (ys.map (Value.int .i64)) w (by omega) hm hpc (by omega) hbig (hmap xs) (hmap ys) hxs hys (ones_int xs) (ones_int ys)).mono ?_
        rintro e w' ⟨rfl, rfl⟩
        have hd1 : ((xs.map (Value.int .i64)).drop i).length = xs.length - i := by simp
        have hti : ((xs.map (Value.int .i64)).take i).length = i := by simp; omega
        generalize hA : ((xs.map (Value.int .i64)).take i).toArray ++ Builtin.zeroCells (Value.int .i64 0).cells (xs.length + ys.length - i) ++ Builtin.zeroCells (Value.int .i64 0).cells (grownCap w (xs.length + ys.length) p.cap (ρ.t 3) - (xs.length + ys.length)) = A
        have hAs : A.size = grownCap w (xs.length + ys.length) p.cap (ρ.t 3) := by rw [← hA]; simp [Builtin.zeroCells, Value.cells]; omega
        have hAx : ∀ (j : Nat) (x : Int), j < i → xs[j]? = some x → A[j]? = some (Value.int .i64 x) := fun j x hj hx => by
          rw [← hA, Array.append_assoc, Array.getElem?_append_left (by simp; omega)]
          simp only [List.getElem?_toArray]
          rw [List.getElem?_take_of_lt hj]
          simp [hx]
        have hgA : (w.alloc (.cells A (ρ.t 3))).drew.heap[w.heap.size]? = some (.cells A (ρ.t 3) (0, 0)) := (alloc_get w (.cells A (ρ.t 3))).1
        obtain ⟨c1, h1, h2, h3, h4, h5, h6, h7, h8, h9⟩ := setCells_get (ys.map (Value.int .i64)) i (w.alloc (.cells A (ρ.t 3))).drew hgA (by simp; omega)
        obtain ⟨c2, g1, g2, g3, g4, g5, g6, g7, g8, g9⟩ := setCells_get ((xs.map (Value.int .i64)).drop i) (i + ys.length) ((w.alloc (.cells A (ρ.t 3))).drew.setCells w.heap.size i (ys.map (Value.int .i64))).drew (c := c1) (e := ρ.t 3) (fr := (0, 0)) h1 (by rw [hd1]; omega)
        refine hend _ c2 g1 (by rw [g2, h2, hAs]) (fun j x hj => ?_) (fun k hk => ?_) ?_ (by rw [g7]; exact h7) (by rw [g8]; exact h8) (by rw [g9]; exact h9)
        · rcases ins_get hi hj with ⟨hj1, hx⟩ | ⟨r, rfl, hx⟩ | ⟨r, rfl, hx⟩
          · rw [g3 j (by omega), h3 j (by omega)]; exact hAx j x hj1 hx
          · have hr := (List.getElem?_eq_some_iff.1 hx).1
            rw [g3 _ (by omega)]
            exact h4 r (.int .i64 x) (by simp [hx])
          · exact g4 r (.int .i64 x) (by rw [← List.map_drop, List.getElem?_map, hx]; rfl)
        · rw [g5 k (by omega)]
          have := h5 k (by omega)
          simp only [World.drew] at this ⊢
          rw [this]
          exact (alloc_get w (.cells A (ρ.t 3))).2.1 k hk
        · rw [g6]
          simp only [World.drew] at h6 ⊢
          rw [h6]; exact (alloc_get w (.cells A (ρ.t 3))).2.2
end Go.Proofs.YtmbbapeiikifgaaGreatDoor
