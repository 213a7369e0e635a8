/- Small lemmas for walks: bytes that a call has gathered as a string; a row that the call owns as a block known from its beginning; lists that came in. -/
import Derived.Test.YtmgppnceddnlmaaHealE
import Derived.Test.YtmgppnceddnlmaaOpen
namespace Go.Proofs.Ytmgppnceddnlmaa
open Go.RowKit

/-- '[]byte' to 'string'. -/
theorem conv_bytes {w : World} {a : Option Addr} {n cap : Nat} {l : Blk} (h : Sl w Byt a n cap l) :
    (convert 70 9 (.slice a n cap)).run Try.prog w = .ok (Str l) w := by
  have hl := h.len
  cases a with
  | none =>
    have h0 : n = 0 := by
      refine Classical.byContradiction fun hn => ?_
      obtain ⟨g, off, e, _⟩ := h.cells (by omega)
      cases e
    have hl0 : l = [] := List.eq_nil_of_length_eq_zero (by omega)
    rw [run_convert_bytes_string w 70 9 5 none n cap Try.underlying70 Try.underlying5 Try.underlying9, hl0, h0]
    simp [Conv.bytesToString]
    rfl
  | some x =>
    have := run_convert_bytes_back (P := Try.prog) w 70 9 5 x cap l Try.underlying70 Try.underlying5 Try.underlying9 (fun j hj => by
      obtain ⟨g, off, e, hc⟩ := h.cells (by omega)
      cases e
      rw [add_lit]
      exact hc j _ (List.getElem?_eq_getElem hj))
    rw [hl] at this
    exact this

theorem owns_pre {w : World} {base e n : Nat} {v : Value} {xs : List Value} (h : w.ownsRow base e 1 v n xs) (hn : 0 < n) :
    ∃ g cap, v = .slice (some ⟨g, 0, none⟩) n cap ∧ Pre w g e xs ∧ n ≤ cap ∧ cap ≤ maxLen ∧ base ≤ g := by
  have h' := h
  rcases h.2 with ⟨rfl, rfl⟩ | ⟨g, cap, cur, rfl, hb, hg, hc, hm, hs, ht⟩
  · have := h.1
    simp at this
    omega
  · exact ⟨g, cap, rfl, Pre.of_owns h', hc, hm, hb⟩

theorem byte_at_end {w : World} {b e n : Nat} {v : Value} {l : Blk} {z : Int} (h : w.ownsRow b e 1 v n (l.map Byt ++ [.int .u8 z])) (hz : 0 ≤ z ∧ z < 256) : ∃ u, w.ownsRow b e 1 v n ((l ++ [u]).map Byt) := by
  refine ⟨UInt8.ofNat z.toNat, ?_⟩
  have e1 : ((UInt8.ofNat z.toNat).toNat : Int) = z := by
    rw [UInt8.toNat_ofNat']
    omega
  rw [List.map_append, List.map_cons, List.map_nil, Byt, e1]
  exact h

theorem IntsIn.ext {w w' : World} {a : Option Addr} {n cap : Nat} {xs : List Int} (h : IntsIn w a n cap xs) (x : Ext w w') : IntsIn w' a n cap xs := ⟨h.sl.ext x, h.fits⟩
theorem RowsIn.get {w w' : World} {a : Option Addr} {n cap : Nat} {xs : List (List Int)} (h : RowsIn w a n cap xs) (x : Ext w w') {i : Nat} (hi : i < n) :
    ∃ g off y a' n' c', a = some ⟨g, off, none⟩ ∧ xs[i]? = some y ∧ w'.cell? ⟨g, off + i, none⟩ = some (.slice a' n' c') ∧ IntsIn w' a' n' c' y := by
  obtain ⟨g, off, e, hc⟩ := h.cells (by omega)
  have hl : i < xs.length := by rw [h.len]; exact hi
  obtain ⟨a', n', c', h1, h2⟩ := hc i _ (List.getElem?_eq_getElem hl)
  exact ⟨g, off, xs[i], a', n', c', e, List.getElem?_eq_getElem hl, x.cell h1, h2.ext x⟩

/-- Where the slice lies behind an append: where it lay, or in a new block. -/
theorem run_append_where {P : Program} (w : World) (base : Nat) (t ty e : TypeId) (i : TypeInfo) (z : Value) (ht : P.underlying t = some (.slice e)) (hi : P.info? e = some i) (hz : i.zero = some z) (hsize : i.size = 1)
    (v : Value) (n : Nat) (xs : List Value) (hown : w.ownsRow base e 1 v n xs) (a : Addr) (m c : Nat) (news : List Value) (hl : news.length = m) (hnews : ∀ j u, news[j]? = some u → w.cell? (a.add j) = some u)
    (h1 : ∀ u ∈ news, u.oneCell' = true) (h63 : n + m ≤ maxLen) (hbytes : (n + m) * i.bytes ≤ 140737488355328) (hm : 0 < m) {v' : Value} {w' : World}
    (hr : (Builtin.append_ #[t, t] ty #[v, .slice (some a) m c]).run P w = .ok v' w') : v'.ownBlock = v.ownBlock ∨ v'.ownBlock = some w.heap.size := by
  have hsmall : n + m ≤ 9223372036854775807 := by simp only [maxLen] at h63; omega
  rcases hown.2 with ⟨rfl, rfl⟩ | ⟨g, cap, cur, rfl, hbg, hg, hnc, hcm, hcs, htake⟩
  · rw [run_append_nil (P := P) w t ty e i z ht hi hz a m c news (by rw [hsize]; omega) hnews hm (by omega) (by have hb := hbytes; simp only [Nat.zero_add] at hb; omega)] at hr
    injection hr with e1 e2
    rw [← e1]
    exact .inr rfl
  · by_cases hroom : n + m ≤ cap
    · rw [run_append_room (P := P) w t ty e i ht hi g n cap cur hg a m c news (by rw [hsize]; omega) hnews h1 hroom (by rw [hsize]; omega)] at hr
      injection hr with e1 e2
      rw [← e1]
      exact .inl rfl
    · rw [run_append_grow (P := P) w t ty e i z ht hi hz ⟨g, 0, none⟩ n cap xs (by rw [hsize]; exact hown.1) (hown.cells (g := g) rfl) a m c news (by rw [hsize]; omega) hnews (by omega) (by omega) (growslice_fits (by omega) hbytes)] at hr
      injection hr with e1 e2
      rw [← e1]
      exact .inr rfl

theorem wpList_append_where {P : Program} {w : World} {ops : Array Oper} {rest : List Oper} {o : Oper} {a : Act} {Q : Exit → Act → World → Prop} (hgd : o.guard = none) (s x : Operand) (t : TypeId)
    (ho : o.op = .call { callee := .builtin .append, args := #[s, x], argTypes := #[t, t] })
    (base : Nat) (e : TypeId) (i : TypeInfo) (z : Value) (ht : P.underlying t = some (.slice e)) (hi : P.info? e = some i) (hz : i.zero = some z)
    (hsize : i.size = 1) (hzs : z.cells.size = 1)
    (v : Value) (n : Nat) (xs : List Value) (hs : a.eval s = v) (hown : w.ownsRow base e 1 v n xs)
    (ad : Addr) (m c : Nat) (news : List Value) (hx : a.eval x = .slice (some ad) m c) (hl : news.length = m) (hnews : ∀ j u, news[j]? = some u → w.cell? (ad.add j) = some u) (h1 : ∀ u ∈ news, u.oneCell' = true)
    (h63 : n + m ≤ maxLen) (hbytes : (n + m) * i.bytes ≤ 140737488355328) (hbase : base ≤ w.heap.size) (hm : 0 < m)
    (h : ∀ v' w', w'.ownsRow base e 1 v' (n + m) (xs ++ news) → w.grownBy w' v.ownBlock → (v'.ownBlock = v.ownBlock ∨ v'.ownBlock = some w.heap.size) → wpList P ops Q rest (a.put o.dst v') w') : wpList P ops Q (o :: rest) a w :=
  wpList_plain hgd fun _ hK => by
    obtain ⟨v', w', hr, h2, h3, h4⟩ := run_append_own (P := P) w base t o.type e i z 1 i.bytes ht hi hz hsize rfl hzs (by omega) v n xs hown ad m c news (by omega) hnews h1 h63 hbytes hbase
    have h5 := run_append_where w base t o.type e i z ht hi hz hsize v n xs hown ad m c news hl hnews h1 h63 hbytes hm hr
    unfold Oper.wp execOp
    simp only [ho, resolve, invoke, builtin, Sem.run_bind, Sem.run_pure, Result.andThen_ok, List.map_toArray, List.map_cons, List.map_nil, hs, hx, hr]
    exact hK _ _ (h v' w' h2 h3 h5)

end Go.Proofs.Ytmgppnceddnlmaa
