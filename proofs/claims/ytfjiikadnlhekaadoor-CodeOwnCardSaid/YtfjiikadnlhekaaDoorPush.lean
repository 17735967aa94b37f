/-
  What is proved here: one more element onto an owned row leaves the old row as it was; a store into an owned row. Conditions: the sizes fit.
-/
import Derived.Test.YtfjiikadnlhekaaDoorMid
import Derived.Deep.AppendLies
import Derived.Deep.MidRow
namespace Go.Proofs.YtfjiikadnlhekaaDoor
open Go.RowKit

/-- A stretch of cells stored into a row that is known whole. -/
theorem setCells_row {w : World} {g o : Nat} {e : TypeId} {vs : List Value} {cur : Array Value} (hg : w.heap[g]? = some (.cells cur e (0, 0))) (hfit : o + vs.length ≤ cur.size) (h1 : ∀ v ∈ vs, v.oneCell' = true) :
    (w.setCells g o vs).heap[g]? = some (.cells (cur.toList.take o ++ vs ++ cur.toList.drop (o + vs.length)).toArray e (0, 0)) := by
  have ha := run_storeCells_at Tryd.prog g o e vs 0 cur w hg (by simpa using hfit) h1
  have hb := run_storeCells_cells (P := Tryd.prog) g o vs 0 w (fun j hj => by simp [World.cell?, hg]; omega) (fun j hj => by simp [World.frozen?, hg]) h1
  simp only [Nat.add_zero] at ha hb
  rw [ha] at hb
  injection hb with _ hw
  rw [← hw]
  exact setRow_heap w g cur _ e _ hg

theorem setCells_other (g : Nat) : ∀ (vs : List Value) (o : Nat) (w : World) (k : Nat), k ≠ g → (w.setCells g o vs).heap[k]? = w.heap[k]?
  | [], _, _, _, _ => rfl
  | v :: r, o, w, k, h => by
    rw [World.setCells, setCells_other g r (o + 1) _ k h, set_other o v h]

theorem setCells_size (g : Nat) : ∀ (vs : List Value) (o : Nat) (w : World), (w.setCells g o vs).heap.size = w.heap.size
  | [], _, _ => rfl
  | v :: r, o, w => by
    rw [World.setCells, setCells_size g r (o + 1)]
    simp [World.setCell]

theorem take_mid (l vs : List Value) (o m : Nat) (h : o + vs.length ≤ m) (hm : m ≤ l.length) : (l.take o ++ vs ++ l.drop (o + vs.length)).take m = (l.take m).take o ++ vs ++ (l.take m).drop (o + vs.length) := by
  rw [List.take_append, List.take_take, Nat.min_eq_left (by omega : o ≤ m)]
  have h1 : (l.take o ++ vs).length = o + vs.length := by simp; omega
  rw [List.take_of_length_le (by rw [h1]; exact h), h1]
  congr 1
  rw [List.drop_take]

theorem take_past (l vs : List Value) (o m : Nat) (h : m ≤ o) (hm : o ≤ l.length) : (l.take o ++ vs ++ l.drop (o + vs.length)).take m = l.take m := by
  rw [List.append_assoc, List.take_append, List.take_take, Nat.min_eq_left h]
  have h1 : (l.take o).length = o := by simp; omega
  rw [h1, Nat.sub_eq_zero_of_le h]
  simp

/-- A store among the row's own cells. -/
theorem own_into {w : World} {B g n cap o : Nat} {e : TypeId} {sz : Nat} {xs vs : List Value} (h : w.ownsRow B e sz (.slice (some ⟨g, 0, none⟩) n cap) n xs) (hfit : o + vs.length ≤ n * sz) (h1 : ∀ v ∈ vs, v.oneCell' = true) :
    (w.setCells g o vs).ownsRow B e sz (.slice (some ⟨g, 0, none⟩) n cap) n (xs.take o ++ vs ++ xs.drop (o + vs.length)) := by
  refine ⟨by have := h.1; simp; omega, ?_⟩
  rcases h.2 with ⟨hn, _⟩ | ⟨g', cap', cur, hv, hb, hgg, hnc, hcm, hcs, ht⟩
  · cases hn
  · cases hv
    have hle : n * sz ≤ cap * sz := Nat.mul_le_mul_right _ hnc
    refine .inr ⟨g, cap, _, rfl, hb, setCells_row hgg (by omega) h1, hnc, hcm, ?_, ?_⟩
    · simp; omega
    · rw [← ht]
      simp only []
      exact take_mid cur.toList vs o (n * sz) hfit (by simp; omega)

/-- A store behind the row's own cells, in another row or in its spare cells. -/
theorem own_past {w : World} {B g n o : Nat} {e : TypeId} {sz : Nat} {v : Value} {xs vs : List Value} (h : w.ownsRow B e sz v n xs) (hp : n * sz ≤ o) (h1 : ∀ v ∈ vs, v.oneCell' = true)
    (hr : ∀ cur t fr, w.heap[g]? = some (.cells cur t fr) → o + vs.length ≤ cur.size) :
    (w.setCells g o vs).ownsRow B e sz v n xs := by
  by_cases hg : v.ownBlock = some g
  · refine ⟨h.1, ?_⟩
    rcases h.2 with hn | ⟨g', cap, cur, rfl, hb, hgg, hnc, hcm, hcs, ht⟩
    · exact .inl hn
    · have hgg' : g' = g := by simpa [Value.ownBlock] using hg
      subst hgg'
      have hfit := hr _ _ _ hgg
      refine .inr ⟨g', cap, _, rfl, hb, setCells_row hgg hfit h1, hnc, hcm, ?_, ?_⟩
      · simp; omega
      · rw [← ht]
        simp only []
        exact take_past cur.toList vs o (n * sz) hp (by simp; omega)
  · exact own_keep h (fun j hj => setCells_other g vs o w j (fun hjg => hg (hjg ▸ hj)))

/-- The list's elements, one of them set. -/
theorem flat_set {α : Type} (enc : α → List Value) (s : Nat) (hs : ∀ x, (enc x).length = s) : ∀ (l : List α) (k : Nat) (x : α), k < l.length → flat enc (l.set k x) = (flat enc l).take (k * s) ++ enc x ++ (flat enc l).drop (k * s + s)
  | [], k, _, h => by simp at h
  | y :: l, 0, x, _ => by
    simp only [flat, List.set_cons_zero, List.flatMap_cons, Nat.zero_mul, List.take_zero, List.nil_append, Nat.zero_add]
    rw [List.drop_append, List.drop_of_length_le (by rw [hs]; exact Nat.le_refl _), hs]
    simp
  | y :: l, k + 1, x, h => by
    have ih := flat_set enc s hs l k x (by simpa using h)
    simp only [flat] at ih
    simp only [flat, List.set_cons_succ, List.flatMap_cons]
    rw [ih]
    have e1 : (k + 1) * s = s + k * s := by rw [Nat.add_mul]; omega
    have e2 : s + k * s - s = k * s := by omega
    have e3 : s + k * s + s - s = k * s + s := by omega
    rw [e1, List.take_append, List.drop_append, hs, e2, e3, List.take_of_length_le (l := enc y) (by rw [hs]; omega), List.drop_of_length_le (l := enc y) (by rw [hs]; omega)]
    simp

/-- One element stored. -/
theorem own_elem {α : Type} {enc : α → List Value} {s : Nat} (hs : ∀ x, (enc x).length = s) (ho : ∀ x, ∀ v ∈ enc x, v.oneCell' = true) {w : World} {B g cap : Nat} {e : TypeId} {l : List α}
    (h : w.ownsRow B e s (.slice (some ⟨g, 0, none⟩) l.length cap) l.length (flat enc l)) (k : Nat) (hk : k < l.length) (x : α) :
    (w.setCells g (k * s) (enc x)).ownsRow B e s (.slice (some ⟨g, 0, none⟩) l.length cap) l.length (flat enc (l.set k x)) := by
  have hfit : k * s + s ≤ l.length * s := by
    have : (k + 1) * s ≤ l.length * s := Nat.mul_le_mul_right _ hk
    rw [Nat.add_mul] at this; omega
  have := own_into h (o := k * s) (vs := enc x) (by rw [hs]; exact hfit) (ho x)
  rw [hs, ← flat_set enc s hs l k x hk] at this
  exact this

/-- The nums, as elements. -/
theorem nums_flat (l : List Int) : nums l = flat (fun x : Int => [.int .i64 x]) l := by
  induction l with
  | nil => rfl
  | cons x l ih => simp only [nums, flat, List.map_cons, List.flatMap_cons, List.singleton_append] at ih ⊢; rw [ih]

theorem own_num {w : World} {B g cap : Nat} {e : TypeId} {l : List Int} (h : w.ownsRow B e 1 (.slice (some ⟨g, 0, none⟩) l.length cap) l.length (nums l)) (k : Nat) (hk : k < l.length) (x : Int) :
    (w.setCell ⟨g, k, none⟩ (.int .i64 x)).ownsRow B e 1 (.slice (some ⟨g, 0, none⟩) l.length cap) l.length (nums (l.set k x)) := by
  rw [nums_flat] at h ⊢
  have := own_elem (enc := fun x : Int => [.int .i64 x]) (fun _ => rfl) (fun x v hv => by simp at hv; subst hv; rfl) h k hk x
  rw [Nat.mul_one] at this
  exact this

section
variable {P : Program} (w : World)

/-- One or more elements onto an owned row: the old row's own cells are as they were. -/
theorem run_push (base : Nat) (t ty e : TypeId) (i : TypeInfo) (z : Value) (size bytes : Nat) (ht : P.underlying t = some (.slice e)) (hi : P.info? e = some i) (hz : i.zero = some z)
    (hsize : i.size = size) (hby : i.bytes = bytes) (hzs : z.cells.size = size) (hsz : 0 < size)
    (v : Value) (n : Nat) (xs : List Value) (hown : w.ownsRow base e size v n xs)
    (a : Addr) (m c : Nat) (news : List Value) (hl : news.length = m * size) (hnews : ∀ j u, news[j]? = some u → w.cell? (a.add j) = some u) (h1 : ∀ u ∈ news, u.oneCell' = true)
    (hm : 0 < m) (h63 : n + m ≤ maxLen) (hbytes : (n + m) * bytes ≤ 140737488355328) (hbase : base ≤ w.heap.size) :
    ∃ g cap w', (Builtin.append_ #[t, t] ty #[v, .slice (some a) m c]).run P w = .ok (.slice (some ⟨g, 0, none⟩) (n + m) cap) w' ∧ w'.ownsRow base e size (.slice (some ⟨g, 0, none⟩) (n + m) cap) (n + m) (xs ++ news) ∧
      w'.ownsRow base e size v n xs ∧ w.grownBy w' v.ownBlock ∧ (v.ownBlock = some g ∨ g = w.heap.size) := by
  obtain ⟨v', w', hr, ho, hg, hn⟩ := run_append_own (P := P) w base t ty e i z size bytes ht hi hz hsize hby hzs hsz v n xs hown a m c news hl hnews h1 h63 hbytes hbase
  have hold : w'.ownsRow base e size v n xs ∧ ∀ g, v'.ownBlock = some g → v.ownBlock = some g ∨ g = w.heap.size := by
    rcases hown.2 with ⟨rfl, rfl⟩ | ⟨g, cap, cur, rfl, hbg, hgg, hnc, hcm, hcs, htake⟩
    · refine ⟨⟨hown.1, .inl ⟨rfl, rfl⟩⟩, fun g hg' => .inr ?_⟩
      have hx : xs = [] := List.eq_nil_of_length_eq_zero (by simpa using hown.1)
      have hr2 := run_append_nil (P := P) w t ty e i z ht hi hz a m c news (by rw [hsize]; exact hl) hnews (by omega) (by simp only [maxLen] at h63; omega) (by rw [hby]; have hb := hbytes; simp only [Nat.zero_add] at hb; omega)
      rw [hr] at hr2
      injection hr2 with hv _
      subst hv
      simpa [Value.ownBlock] using hg'.symm
    · by_cases hroom : n + m ≤ cap
      · have hfit : n * i.size + news.length ≤ cur.size := by rw [hl, hcs, hsize, ← Nat.add_mul]; exact Nat.mul_le_mul_right _ hroom
        have hr2 := run_append_room (P := P) w t ty e i ht hi g n cap cur hgg a m c news (by rw [hsize]; exact hl) hnews h1 hroom hfit
        rw [hr] at hr2
        injection hr2 with hv hw
        subst hv
        refine ⟨⟨hown.1, .inr ⟨g, cap, _, rfl, hbg, by rw [hw]; exact setRow_heap w g cur _ e _ hgg, hnc, hcm, ?_, ?_⟩⟩, fun g' hg' => .inl hg'⟩
        · simp only [List.size_toArray, List.length_append, List.length_take, List.length_drop, Array.length_toList]
          omega
        · rw [← htake]
          simp only [hsize] at hfit ⊢
          exact take_past cur.toList news (n * size) (n * size) (Nat.le_refl _) (by simp; omega)
      · have holds : ∀ j u, xs[j]? = some u → w.cell? ((⟨g, 0, none⟩ : Addr).add j) = some u := hown.cells (g := g) rfl
        have hr2 := run_append_grow (P := P) w t ty e i z ht hi hz ⟨g, 0, none⟩ n cap xs (by rw [hsize]; exact hown.1) holds a m c news (by rw [hsize]; exact hl) hnews (by omega) (by simp only [maxLen] at h63; omega) (by rw [hby]; exact growslice_fits (by omega) hbytes)
        rw [hr] at hr2
        injection hr2 with hv hw
        subst hv
        refine ⟨own_keep hown (fun j hj => ?_), fun g' hg' => .inr (by simpa [Value.ownBlock] using hg'.symm)⟩
        rw [hw]
        exact (Below.alloc (Below.refl w.drew.heap.size w.drew) (Nat.le_refl _) _).block j (hown.lt j hj).2
  rcases ho.2 with ⟨_, h0⟩ | ⟨g, cap, cur, rfl, _⟩
  · omega
  · exact ⟨g, cap, w', hr, ho, hold.1, hg, hold.2 g rfl⟩

theorem wp_push {o : Oper} {a : Act} {K : Act → World → Prop} {Q : Exit → Act → World → Prop} (s x : Operand) (t : TypeId)
    (ho : o.op = .call { callee := .builtin .append, args := #[s, x], argTypes := #[t, t] })
    (base : Nat) (e : TypeId) (i : TypeInfo) (z : Value) (size bytes : Nat) (ht : P.underlying t = some (.slice e)) (hi : P.info? e = some i) (hz : i.zero = some z)
    (hsize : i.size = size) (hby : i.bytes = bytes) (hzs : z.cells.size = size) (hsz : 0 < size)
    (v : Value) (n : Nat) (xs : List Value) (hs : a.eval s = v) (hown : w.ownsRow base e size v n xs)
    (ad : Addr) (m c : Nat) (news : List Value) (hx : a.eval x = .slice (some ad) m c) (hl : news.length = m * size) (hnews : ∀ j u, news[j]? = some u → w.cell? (ad.add j) = some u) (h1 : ∀ u ∈ news, u.oneCell' = true)
    (hm : 0 < m) (h63 : n + m ≤ maxLen) (hbytes : (n + m) * bytes ≤ 140737488355328) (hbase : base ≤ w.heap.size)
    (h : ∀ g cap w', w'.ownsRow base e size (.slice (some ⟨g, 0, none⟩) (n + m) cap) (n + m) (xs ++ news) → w'.ownsRow base e size v n xs → w.grownBy w' v.ownBlock → (v.ownBlock = some g ∨ g = w.heap.size) → K (a.put o.dst (.slice (some ⟨g, 0, none⟩) (n + m) cap)) w') : o.wp P a w K Q := by
  obtain ⟨g, cap, w', hr, h2, h3, h4, h5⟩ := run_push (P := P) w base t o.type e i z size bytes ht hi hz hsize hby hzs hsz v n xs hown ad m c news hl hnews h1 hm h63 hbytes hbase
  unfold Oper.wp execOp
  simp only [ho, resolve, invoke, builtin, Sem.run_bind, Sem.run_pure, Result.andThen_ok, List.map_toArray, List.map_cons, List.map_nil, hs, hx, hr]
  exact h g cap w' h2 h3 h4 h5

theorem wpList_push {ops : Array Oper} {rest : List Oper} {o : Oper} {a : Act} {Q : Exit → Act → World → Prop} (hgd : o.guard = none) (s x : Operand) (t : TypeId)
    (ho : o.op = .call { callee := .builtin .append, args := #[s, x], argTypes := #[t, t] })
    (base : Nat) (e : TypeId) (i : TypeInfo) (z : Value) (size bytes : Nat) (ht : P.underlying t = some (.slice e)) (hi : P.info? e = some i) (hz : i.zero = some z)
    (hsize : i.size = size) (hby : i.bytes = bytes) (hzs : z.cells.size = size) (hsz : 0 < size)
    (v : Value) (n : Nat) (xs : List Value) (hs : a.eval s = v) (hown : w.ownsRow base e size v n xs)
    (ad : Addr) (m c : Nat) (news : List Value) (hx : a.eval x = .slice (some ad) m c) (hl : news.length = m * size) (hnews : ∀ j u, news[j]? = some u → w.cell? (ad.add j) = some u) (h1 : ∀ u ∈ news, u.oneCell' = true)
    (hm : 0 < m) (h63 : n + m ≤ maxLen) (hbytes : (n + m) * bytes ≤ 140737488355328) (hbase : base ≤ w.heap.size)
    (h : ∀ g cap w', w'.ownsRow base e size (.slice (some ⟨g, 0, none⟩) (n + m) cap) (n + m) (xs ++ news) → w'.ownsRow base e size v n xs → w.grownBy w' v.ownBlock → (v.ownBlock = some g ∨ g = w.heap.size) → wpList P ops Q rest (a.put o.dst (.slice (some ⟨g, 0, none⟩) (n + m) cap)) w') : wpList P ops Q (o :: rest) a w :=
  wpList_plain hgd fun _ hK => wp_push w s x t ho base e i z size bytes ht hi hz hsize hby hzs hsz v n xs hs hown ad m c news hx hl hnews h1 hm h63 hbytes hbase fun g cap w' h2 h3 h4 h5 => hK _ _ (h g cap w' h2 h3 h4 h5)
end
end Go.Proofs.YtfjiikadnlhekaaDoor
