/- append: what the machine does. -/
import Derived.Test.YtmbbapeiikifgaaGreatDoorSlS
import Derived.Laws.Append
namespace Go.Proofs.YtmbbapeiikifgaaGreatDoor
open Go
theorem ElemRd.vals {S : CS} {w : World} : ∀ {t : Ty} {x : t.T} {b o : Nat}, ElemRd S w t x b o → ∃ vs : List Value, vs.length = t.sz ∧ (∀ j v, vs[j]? = some v → w.cell? ⟨b, o + j, none⟩ = some v) ∧ ∀ v, v ∈ vs → Value.one v = true := by
  intro t
  have one : ∀ {b o : Nat} {v : Value}, w.cell? ⟨b, o, none⟩ = some v → Value.one v = true → ∃ vs : List Value, vs.length = 1 ∧ (∀ j u, vs[j]? = some u → w.cell? ⟨b, o + j, none⟩ = some u) ∧ ∀ v, v ∈ vs → Value.one v = true := fun {b o v} h h1 =>
    ⟨[v], rfl, fun j u hj => by
      cases j with
      | zero => simp at hj; subst hj; exact h
      | succ j => simp at hj, fun u hu => by simp at hu; subst hu; exact h1⟩
  induction t with
  | int k => intro x b o h; exact one h.1 rfl
  | bool => intro x b o h; exact one h.1 rfl
  | str => intro x b o h; exact one h.1 rfl
  | pair a c iha ihc =>
    intro x b o h
    obtain ⟨vs, h1, h2, h3⟩ := iha h.1
    obtain ⟨us, g1, g2, g3⟩ := ihc h.2
    refine ⟨vs ++ us, by simp [h1, g1, Ty.sz], fun j v hj => ?_, fun v hv => (List.mem_append.1 hv).elim (h3 v) (g3 v)⟩
    rw [List.getElem?_append] at hj
    split at hj
    · exact h2 j v hj
    · have := g2 _ v hj
      rwa [show o + a.sz + (j - vs.length) = o + j from by omega] at this
  | own t ih =>
    rintro xs b o ⟨av, cap, h, _⟩
    exact one h rfl
theorem ElemOwn.move {w w' : World} {X : CS} (hk : Keep w w' X) : ∀ {t : Ty} {x : t.T} {b o b' o' : Nat} {S : CS}, (∀ j v, j < t.sz → w.cell? ⟨b, o + j, none⟩ = some v → w'.cell? ⟨b', o' + j, none⟩ = some v) → Disj X S →
    ElemOwn w t x b o S → ElemOwn w' t x b' o' S := by
  intro t
  induction t with
  | int k => exact fun hc _ ⟨h, hs⟩ => ⟨by simpa using hc 0 _ (by simp [Ty.sz]) (by simpa using h), hs⟩
  | bool => exact fun hc _ ⟨h, hs⟩ => ⟨by simpa using hc 0 _ (by simp [Ty.sz]) (by simpa using h), hs⟩
  | str => exact fun hc _ ⟨h, hs⟩ => ⟨by simpa using hc 0 _ (by simp [Ty.sz]) (by simpa using h), hs⟩
  | pair a c iha ihc =>
    rintro x b o b' o' S hc hd ⟨S1, S2, h1, h2, hdd, hs⟩
    refine ⟨S1, S2, iha (fun j v hj hv => hc j v ?_ hv) (fun k j h h' => hd k j h ((hs k j).2 (.inl h'))) h1, ihc (fun j v hj hv => ?_) (fun k j h h' => hd k j h ((hs k j).2 (.inr h'))) h2, hdd, hs⟩
    · simp only [Ty.sz]; omega
    · have := hc (a.sz + j) v (by simp only [Ty.sz]; omega) (by rwa [← Nat.add_assoc])
      rwa [← Nat.add_assoc] at this
  | own t ih =>
    rintro xs b o b' o' S hc hd ⟨av, cap, h, hr⟩
    refine ⟨av, cap, by simpa using hc 0 _ (by simp [Ty.sz]) (by simpa using h), hr.imp id ?_⟩
    rintro ⟨g, cur, e, ha, hg, hsz, hl, Ss, he, hdd, hgg, hs⟩
    refine ⟨g, cur, e, ha, hk.block hg fun j hx => hd g j hx ((hs g j).2 (.inl rfl)), hsz, hl, Ss, fun i x hx => ElemOwn.keep hk (fun j _ _ hX => hd g j hX ((hs g j).2 (.inl rfl))) (fun k j h1 h2 => ?_) (he i x hx), hdd, hgg, hs⟩
    exact hd k j h1 ((hs k j).2 (.inr ⟨i, (List.getElem?_eq_some_iff.1 hx).1, h2⟩))
theorem ElemRd.copy {S : CS} {w w' : World} : ∀ {t : Ty} {x : t.T} {b o b' o' : Nat}, plain t = true → (∀ j v, j < t.sz → w.cell? ⟨b, o + j, none⟩ = some v → w'.cell? ⟨b', o' + j, none⟩ = some v) → ElemRd S w t x b o → ElemOwn w' t x b' o' noS := by
  intro t
  induction t with
  | int k => exact fun _ hc ⟨h, _⟩ => ⟨by simpa using hc 0 _ (by simp [Ty.sz]) (by simpa using h), fun _ _ h => h⟩
  | bool => exact fun _ hc ⟨h, _⟩ => ⟨by simpa using hc 0 _ (by simp [Ty.sz]) (by simpa using h), fun _ _ h => h⟩
  | str => exact fun _ hc ⟨h, _⟩ => ⟨by simpa using hc 0 _ (by simp [Ty.sz]) (by simpa using h), fun _ _ h => h⟩
  | pair a c iha ihc =>
    rintro x b o b' o' hp hc ⟨h1, h2⟩
    simp only [plain, Bool.and_eq_true] at hp
    refine ⟨noS, noS, iha hp.1 (fun j v hj hv => hc j v ?_ hv) h1, ihc hp.2 (fun j v hj hv => ?_) h2, fun _ _ h => h.elim, fun k j => by simp [noS]⟩
    · simp only [Ty.sz]; omega
    · have := hc (a.sz + j) v (by simp only [Ty.sz]; omega) (by rwa [← Nat.add_assoc])
      rwa [← Nat.add_assoc] at this
  | own t ih => intro x b o b' o' hp; simp [plain] at hp
theorem rows_vals {w : World} {b f sz : Nat} : ∀ (n : Nat), (∀ i, i < n → ∃ vs : List Value, vs.length = sz ∧ (∀ j v, vs[j]? = some v → w.cell? ⟨b, f + i * sz + j, none⟩ = some v) ∧ ∀ v, v ∈ vs → Value.one v = true) →
    ∃ vs : List Value, vs.length = n * sz ∧ (∀ j v, vs[j]? = some v → w.cell? ⟨b, f + j, none⟩ = some v) ∧ ∀ v, v ∈ vs → Value.one v = true
  | 0, _ => ⟨[], by simp, fun j v h => by simp at h, fun v h => by cases h⟩
  | n + 1, h => by
    obtain ⟨vs, h1, h2, h3⟩ := rows_vals n fun i hi => h i (by omega)
    obtain ⟨us, g1, g2, g3⟩ := h n (by omega)
    refine ⟨vs ++ us, by simp [h1, g1, Nat.add_mul], fun j v hj => ?_, fun v hv => (List.mem_append.1 hv).elim (h3 v) (g3 v)⟩
    rw [List.getElem?_append] at hj
    split at hj
    · exact h2 j v hj
    · have := g2 _ v hj
      rwa [show f + n * sz + (j - vs.length) = f + j from by omega] at this
theorem Keep.drew (w : World) : Keep w w.drew (fun _ _ => False) := ⟨rfl, rfl, rfl, Nat.le_refl _, fun _ _ => .inl rfl⟩
theorem app_run {P : Program} (w : World) {t ty e : TypeId} {inf : TypeInfo} {z : Value} (ht : P.underlying t = some (.slice e)) (hi : P.info? e = some inf) (hz : inf.zero = some z) (hzs : z.cells.size = inf.size) (hb : inf.bytes ≤ 128)
    {av : Option Addr} {n cap : Nat} (hav : (av = none ∧ n = 0 ∧ cap = 0) ∨ ∃ g cur e', av = some ⟨g, 0, none⟩ ∧ w.heap[g]? = some (.cells cur e' (0, 0)) ∧ n ≤ cap ∧ cur.size = cap * inf.size)
    {olds : List Value} (hol : olds.length = n * inf.size) (holds : ∀ g, av = some ⟨g, 0, none⟩ → ∀ j v, olds[j]? = some v → w.cell? ⟨g, j, none⟩ = some v)
    {b f m c : Nat} {news : List Value} (hl : news.length = m * inf.size) (hnews : ∀ j v, news[j]? = some v → w.cell? ⟨b, f + j, none⟩ = some v) (h1 : ∀ v, v ∈ news → Value.one v = true) (hlim : n + m ≤ 1099511627776) :
    ∃ av' cap' w', (Builtin.append_ #[t, t] ty #[.slice av n cap, .slice (some ⟨b, f, none⟩) m c]).run P w = .ok (.slice av' (n + m) cap') w' ∧
      ((av = none ∧ av' = none ∧ n = 0 ∧ m = 0 ∧ cap' = 0 ∧ w' = w) ∨
       ∃ g' cur' e', av' = some ⟨g', 0, none⟩ ∧ w'.heap[g']? = some (.cells cur' e' (0, 0)) ∧ (n + m ≤ cap' ∧ (cap' ≤ 9223372036854775807 ∨ cap' = cap)) ∧ cur'.size = cap' * inf.size ∧
         (∀ j v, olds[j]? = some v → w'.cell? ⟨g', j, none⟩ = some v) ∧ (∀ j v, news[j]? = some v → w'.cell? ⟨g', n * inf.size + j, none⟩ = some v) ∧
         ((g' = w.heap.size ∧ Keep w w' (fun _ _ => False)) ∨ (av = some ⟨g', 0, none⟩ ∧ Keep w w' (fun k j => k = g' ∧ n * inf.size ≤ j ∧ j < n * inf.size + news.length)))) := by
  have hcapm : ∀ (a b : Nat) (e : TypeId), a ≤ 1099511627776 → grownCap w a b e ≤ 9223372036854775807 := fun a b e h => by
    have := grownCap_le_maxLen w a b e (by simp only [Go.maxLen]; omega)
    simpa [Go.maxLen] using this
  have hbytes : (n + m) * inf.bytes ≤ 140737488355328 := by
    have h2 : (n + m) * inf.bytes ≤ 1099511627776 * 128 := Nat.mul_le_mul hlim hb
    omega
  have hnews' : ∀ j v, news[j]? = some v → w.cell? ((⟨b, f, none⟩ : Addr).add j) = some v := fun j v h => by rw [addr_add]; exact hnews j v h
  have fresh : ∀ (cp : Nat) (arr : Array Value), n + m ≤ cp → arr = olds.toArray ++ news.toArray ++ Builtin.zeroCells z.cells (cp - (n + m)) →
      ∃ cur' e', (w.drew.alloc (.cells arr e)).heap[w.heap.size]? = some (.cells cur' e' (0, 0)) ∧ cur'.size = cp * inf.size ∧ (∀ j v, olds[j]? = some v → (w.drew.alloc (.cells arr e)).cell? ⟨w.heap.size, j, none⟩ = some v) ∧
        (∀ j v, news[j]? = some v → (w.drew.alloc (.cells arr e)).cell? ⟨w.heap.size, n * inf.size + j, none⟩ = some v) ∧ Keep w (w.drew.alloc (.cells arr e)) (fun _ _ => False) := by
    rintro cp arr hcp rfl
    have hg : (w.drew.alloc (.cells (olds.toArray ++ news.toArray ++ Builtin.zeroCells z.cells (cp - (n + m))) e)).heap[w.heap.size]? = some (.cells (olds.toArray ++ news.toArray ++ Builtin.zeroCells z.cells (cp - (n + m))) e (0, 0)) := heap_alloc_new w.drew _
    refine ⟨_, e, hg, ?_, fun j v hj => ?_, fun j v hj => ?_, ((Keep.drew w).trans (Keep.push w.drew _) fun _ _ h => h.elim)⟩
    · simp only [Array.size_append, List.size_toArray, size_zeroCells, hzs, hol, hl, ← Nat.add_mul]
      congr 1
      omega
    · refine cell_iff.2 ⟨_, _, _, hg, ?_⟩
      have hlt := (List.getElem?_eq_some_iff.1 hj).1
      rw [Array.append_assoc, Array.getElem?_append_left (by simpa using hlt)]
      simpa using hj
    · refine cell_iff.2 ⟨_, _, _, hg, ?_⟩
      have hlt := (List.getElem?_eq_some_iff.1 hj).1
      rw [Array.getElem?_append_left (by simp; omega), Array.getElem?_append_right (by simp; omega)]
      simpa [hol] using hj
  rcases hav with ⟨rfl, rfl, rfl⟩ | ⟨g, cur, e', rfl, hg, hnc, hcs⟩
  · have ho : olds = [] := List.eq_nil_of_length_eq_zero (by simpa using hol)
    subst ho
    by_cases hm : m = 0
    · subst hm
      have hn : news = [] := List.eq_nil_of_length_eq_zero (by simpa using hl)
      subst hn
      refine ⟨none, 0, w, ?_, .inl ⟨rfl, rfl, rfl, rfl, rfl, rfl⟩⟩
      simp [Builtin.append_, run_underlying ht, sizeOf, typeInfo, hi, Builtin.lenOf, Builtin.firstCells, loadCells, loadCellsFrom]
    · have hr := run_append_nil (P := P) w t ty e inf z ht hi hz ⟨b, f, none⟩ m c news hl hnews' (by omega) (by omega) (by simp only [Nat.zero_add] at hbytes; omega)
      obtain ⟨cur', e', h2, h3, h4, h5, h6⟩ := fresh (grownCap w m 0 e) _ (by simpa using grownCap_ge w m 0 e) rfl
      simp only [Nat.zero_add, Array.empty_append] at h2 h4 h5 h6 hr ⊢
      exact ⟨_, _, _, hr, .inr ⟨w.heap.size, cur', e', rfl, h2, ⟨grownCap_ge w m 0 e, .inl (hcapm _ _ _ (by omega))⟩, h3, h4, h5, .inl ⟨rfl, h6⟩⟩⟩
  · have hblk : ∀ q, q < cur.size → ∃ u, w.cell? ⟨g, q, none⟩ = some u := fun q hq => ⟨cur[q], cell_iff.2 ⟨cur, e', (0, 0), hg, by simp [hq]⟩⟩
    by_cases hroom : n + m ≤ cap
    · have hfit : n * inf.size + news.length ≤ cur.size := by rw [hl, hcs, ← Nat.add_mul]; exact Nat.mul_le_mul_right _ hroom
      obtain ⟨w', hrun, hk, hcells⟩ := run_storeCells (P := P) (b := g) (f := n * inf.size) news 0 w h1 fun j hj => ⟨hblk _ (by omega), frozen_of_row w g _ cur e' hg⟩
      simp only [Nat.add_zero] at hk hcells
      have hlt := (Array.getElem?_eq_some_iff.1 hg).1
      have hg' : ∃ cur', w'.heap[g]? = some (.cells cur' e' (0, 0)) ∧ cur'.size = cur.size := by
        rcases hk.blk g hlt with h1 | ⟨c1, c2, e1, fr1, h1, h2, hs, _⟩ | ⟨es, n, es', n', h1, _⟩ | ⟨_, _, _, _, _, _, _, _, hxx⟩
        · exact ⟨cur, h1.trans hg, rfl⟩
        · rw [hg] at h1; simp only [Option.some.injEq, Obj.cells.injEq] at h1
          obtain ⟨rfl, rfl, rfl⟩ := h1
          exact ⟨c2, h2, hs⟩
        · rw [hg] at h1; cases h1
        · have := hxx (n * inf.size + news.length); omega
      obtain ⟨cur', hg', hcs'⟩ := hg'
      refine ⟨some ⟨g, 0, none⟩, cap, w', ?_, .inr ⟨g, cur', e', rfl, hg', ⟨hroom, .inr rfl⟩, hcs'.trans hcs, fun j v hj => ?_, hcells, .inr ⟨rfl, hk⟩⟩⟩
      · have hf := run_firstCells_some (P := P) w inf.size m ⟨b, f, none⟩ m c news hl hnews'
        simp [Builtin.append_, run_underlying ht, sizeOf, typeInfo, hi, Builtin.lenOf, hroom, hf, addr_add, hrun]
      · have := (List.getElem?_eq_some_iff.1 hj).1
        exact hk.cell (holds g rfl j v hj) fun h => by omega
    · have hr := run_append_grow (P := P) w t ty e inf z ht hi hz ⟨g, 0, none⟩ n cap olds hol (fun j v h => by rw [addr_add, Nat.zero_add]; exact holds g rfl j v h) ⟨b, f, none⟩ m c news hl hnews' (by omega) (by omega) (growslice_fits (by omega) hbytes)
      obtain ⟨cur', e'', h2, h3, h4, h5, h6⟩ := fresh (grownCap w (n + m) cap e) _ (grownCap_ge w (n + m) cap e) rfl
      exact ⟨_, _, _, hr, .inr ⟨w.heap.size, cur', e'', rfl, h2, ⟨grownCap_ge w (n + m) cap e, .inl (hcapm _ _ _ hlim)⟩, h3, h4, h5, .inl ⟨rfl, h6⟩⟩⟩
end Go.Proofs.YtmbbapeiikifgaaGreatDoor
