import Derived.Test.YtanhkkillmbkhaaZaaO
import Derived.Laws.Concat
import Derived.Laws.Small
namespace Go.AL
set_option linter.unusedVariables false
set_option linter.unusedSimpArgs false

section
variable {P : Program} {N : Nat} {M : MMap} {T : Env} {σ : St} {a : Act} {w : World}

theorem toList_beq (a b : ByteArray) : (a.toList == b.toList) = decide (a = b) := by
  rw [ByteArray.toList_eq, ByteArray.toList_eq]
  by_cases h : a = b
  · subst h; simp
  · have : a.data.toList ≠ b.data.toList := fun h' => h (by cases a; cases b; simp_all [Array.toList_inj])
    rw [decide_eq_false h]
    exact beq_eq_false_iff_ne.2 this

theorem binI_sound {op : BinOp} {k : IntKind} {x y : Int} {xt : TypeId} {side : Prop} {d : D} (h : binI op k x y = some (side, d)) (hs : side) (w : World) :
    ∃ v, (binOp op xt (.int k x) (.int k y)).run P w = .ok v w ∧ Rep M w d v := by
  cases op <;> simp only [binI, Option.some.injEq, Prod.mk.injEq, reduceCtorEq] at h <;> obtain ⟨rfl, rfl⟩ := h
  case quo => exact ⟨_, (by simp [binOp, Op.intDiv, hs]; try rfl), rfl⟩
  case rem => exact ⟨_, (by simp [binOp, Op.intDiv, hs]; try rfl), rfl⟩
  case eql => exact ⟨_, (by simp [binOp, Op.intCmp]; try rfl), by simp [Rep]; rfl⟩
  case neq => exact ⟨_, (by simp [binOp, Op.intCmp]; try rfl), by simp only [Rep]; rfl⟩
  case and => exact ⟨_, (by simp [binOp, Op.intBits]; try rfl), rfl⟩
  case or => exact ⟨_, (by simp [binOp, Op.intBits]; try rfl), rfl⟩
  case xor => exact ⟨_, (by simp [binOp, Op.intBits]; try rfl), rfl⟩
  case andNot => exact ⟨_, (by simp [binOp, Op.intBits]; try rfl), rfl⟩
  all_goals exact ⟨_, (by simp [binOp, Op.intArith, Op.intCmp]; try rfl), by simp [Rep]⟩

theorem binD_sound {op : BinOp} {xt : TypeId} {x y : D} {side : Prop} {d : D} (h : binD P op xt x y = some (side, d)) (hs : side) {u v : Value} (hx : Rep M w x u) (hy : Rep M w y v) :
    (∃ r, (binOp op xt u v).run P w = .ok r w ∧ Rep M w d r) ∧ ∀ ox oy : Operand, (eqGuard op xt ox oy u v).run P w = .ok () w := by
  unfold binD at h
  split at h
  · rename_i k a k' b
    obtain rfl := hx
    obtain rfl := hy
    refine ⟨?_, fun ox oy => by simp [eqGuard]⟩
    split at h
    · simp only [Option.some.injEq, Prod.mk.injEq] at h; obtain ⟨rfl, rfl⟩ := h
      exact ⟨_, (by simp [binOp, Op.shift, show ¬ b < 0 by omega]; try rfl), rfl⟩
    · simp only [Option.some.injEq, Prod.mk.injEq] at h; obtain ⟨rfl, rfl⟩ := h
      exact ⟨_, (by simp [binOp, Op.shift, show ¬ b < 0 by omega]; try rfl), rfl⟩
    · split at h
      · rename_i hk; subst hk; exact binI_sound h hs w
      · cases h
  · rename_i a b
    obtain rfl := hx
    obtain rfl := hy
    refine ⟨?_, fun ox oy => by simp [eqGuard]⟩
    split at h
    · simp only [Option.some.injEq, Prod.mk.injEq] at h; obtain ⟨rfl, rfl⟩ := h
      exact ⟨_, (by simp [binOp, run_string_add_sum w a b hs]; try rfl), rfl⟩
    · simp only [Option.some.injEq, Prod.mk.injEq] at h; obtain ⟨rfl, rfl⟩ := h
      exact ⟨_, (by simp [binOp, Op.stringOp]; try rfl), by simp only [Rep, toList_beq]⟩
    · simp only [Option.some.injEq, Prod.mk.injEq] at h; obtain ⟨rfl, rfl⟩ := h
      exact ⟨_, (by simp [binOp, Op.stringOp]; try rfl), by simp only [Rep, toList_beq]⟩
    · cases h
  · rename_i a b
    obtain rfl := hx
    obtain rfl := hy
    refine ⟨?_, fun ox oy => by simp [eqGuard]⟩
    split at h
    · rename_i hb
      simp only [Option.some.injEq, Prod.mk.injEq] at h; obtain ⟨rfl, rfl⟩ := h
      exact ⟨_, (by simp [binOp, run_equal_bool w xt a b (und_of_bool hb)]; try rfl), rfl⟩
    · rename_i hb
      simp only [Option.some.injEq, Prod.mk.injEq] at h; obtain ⟨rfl, rfl⟩ := h
      exact ⟨_, (by simp [binOp, run_equal_bool w xt a b (und_of_bool hb)]; try rfl), by simp only [Rep]; rfl⟩
    · cases h
  · cases h

theorem concP_ne {t : TypeId} (h : concP P t = true) : ∃ d, P.underlying t = some d ∧ ∀ ms, d ≠ .interface ms := by
  unfold concP at h
  split at h
  · cases h
  · rename_i d hd hu
    exact ⟨d, hu, fun ms hm => by subst hm; exact hd ms rfl⟩
  · cases h

theorem indexD_sound {t : TypeId} {x : D} {i : Int} {k : IntKind} {side : Prop} {d : D} (h : indexD P t x i = some (side, d)) (hs : side) {u : Value} (hx : Rep M w x u) :
    ∃ r, (Instr.indexAt t u (.int k i)).run P w = .ok r w ∧ Rep M w d r := by
  unfold indexD at h
  split at h
  · rename_i o es
    split at h
    · rename_i e he
      split at h
      · rename_i n hn
        simp only [Option.some.injEq, Prod.mk.injEq] at h; obtain ⟨rfl, rfl⟩ := h
        obtain ⟨⟨h0, h1⟩, hl⟩ := hs
        have hin : i.toNat < es.length := by omega
        have hget : es[i.toNat]? = some es[i.toNat] := by simp [hin]
        -- every slice that holds something has a row
        have key : ∃ b off cap size, u = .slice (some ⟨b, off, none⟩) es.length cap ∧ RepRows M w es b off size := by
          cases o with
          | nil => obtain ⟨_, rfl⟩ := hx; simp at hin
          | exact => obtain ⟨b, off, size, hv, hr⟩ := hx; exact ⟨b, off, _, size, hv, hr⟩
          | no =>
            rcases hx with ⟨_, rfl⟩ | ⟨b, off, cap, size, hv, _, hr⟩ | ⟨_, _, _, rfl⟩
            · simp at hin
            · exact ⟨b, off, cap, size, hv, hr⟩
            · simp at hin
          | buf b s => obtain ⟨cap, _, _, _, hv, _, hr, _⟩ := hx; exact ⟨b, 0, cap, s, hv, hr⟩
        obtain ⟨b, off, cap, size, rfl, hr⟩ := key
        obtain ⟨hsz, hc⟩ := hr.get hget
        rw [hget] at hl ⊢
        simp only [Option.getD_some] at hl ⊢
        have hne : n = size := hl.symm.trans hsz
        subst hne
        refine ⟨.pointer (some ⟨b, off + i.toNat * n, none⟩), ?_, b, _, rfl, hc⟩
        have hadd : Addr.add ⟨b, off, none⟩ (i.toNat * n) = ⟨b, off + i.toNat * n, none⟩ := by unfold Addr.add; split <;> simp_all
        simp [Instr.indexAt, asIntOf, run_underlying (und_of_sli he), h0, h1, run_sizeOf hn, hadd]
      · cases h
    · cases h
  · rename_i b off len cap
    obtain rfl := hx
    split at h
    · rename_i e he
      split at h
      · rename_i n hn
        simp only [Option.some.injEq, Prod.mk.injEq] at h; obtain ⟨rfl, rfl⟩ := h
        have hadd : Addr.add ⟨b, off, none⟩ (i.toNat * n) = ⟨b, off + i.toNat * n, none⟩ := by unfold Addr.add; split <;> simp_all
        exact ⟨_, (by simp [Instr.indexAt, asIntOf, run_underlying (und_of_sli he), hs.1, hs.2, run_sizeOf hn, hadd]; try rfl), rfl⟩
      · cases h
    · cases h
  · rename_i b off
    obtain rfl := hx
    split at h
    · rename_i m e he
      split at h
      · rename_i n hn
        simp only [Option.some.injEq, Prod.mk.injEq] at h; obtain ⟨rfl, rfl⟩ := h
        have hadd : Addr.add ⟨b, off, none⟩ (i.toNat * n) = ⟨b, off + i.toNat * n, none⟩ := by unfold Addr.add; split <;> simp_all
        exact ⟨_, (by simp [Instr.indexAt, Instr.sureAddr, asIntOf, run_underlying (und_of_arr he), hs.1, hs.2, run_sizeOf hn, hadd]; try rfl), rfl⟩
      · cases h
    · cases h
  · rename_i cs
    obtain ⟨b, off, rfl, hc⟩ := hx
    split at h
    · rename_i m e he
      split at h
      · rename_i n hn
        simp only [Option.some.injEq, Prod.mk.injEq] at h; obtain ⟨rfl, rfl⟩ := h
        have hadd : Addr.add ⟨b, off, none⟩ (i.toNat * n) = ⟨b, off + i.toNat * n, none⟩ := by unfold Addr.add; split <;> simp_all
        exact ⟨_, (by simp [Instr.indexAt, Instr.sureAddr, asIntOf, run_underlying (und_of_arr he), hs.1, hs.2, run_sizeOf hn, hadd]; try rfl), b, _, rfl, hc.drop _⟩
      · cases h
    · cases h
  · cases h

theorem toInt?_rep {x : D} {n : Int} (h : toInt? x = some n) {u : Value} (hx : Rep M w x u) : ∃ k, u = .int k n := by
  cases x <;> simp only [toInt?, reduceCtorEq, Option.some.injEq] at h
  subst h; exact ⟨_, hx⟩

theorem rows_of_slice {o : Own} {es : List (List D)} {u : Value} (hx : Rep M w (.slice o es) u) :
    (u = .slice none 0 0 ∧ es = []) ∨ (∃ b off cap size, u = .slice (some ⟨b, off, none⟩) es.length cap ∧ es.length ≤ cap ∧ RepRows M w es b off size) ∨ ∃ a cap, u = .slice (some a) 0 cap ∧ es = [] := by
  cases o with
  | nil => exact .inl hx
  | exact => obtain ⟨b, off, size, hv, hr⟩ := hx; exact .inr (.inl ⟨b, off, _, size, hv, Nat.le_refl _, hr⟩)
  | no => exact hx
  | buf b s => obtain ⟨cap, _, _, _, hv, hl, hr, _⟩ := hx; exact .inr (.inl ⟨b, 0, cap, s, hv, hl, hr⟩)

theorem lenD_sound {t ty : TypeId} {x d : D} (h : lenD P t x = some d) {u : Value} (hx : Rep M w x u) :
    ∃ r, (Builtin.len_ #[t] ty #[u]).run P w = .ok r w ∧ Rep M w d r := by
  unfold lenD at h
  split at h
  · rename_i o es
    split at h
    · rename_i e he
      cases h
      rcases rows_of_slice hx with ⟨rfl, rfl⟩ | ⟨b, off, cap, size, rfl, hl, hr⟩ | ⟨a, cap, rfl, rfl⟩
      · exact ⟨_, (by simp [Builtin.len_, run_underlying (und_of_sli he)]; try rfl), rfl⟩
      · exact ⟨_, (by simp [Builtin.len_, run_underlying (und_of_sli he)]; try rfl), rfl⟩
      · exact ⟨_, (by simp [Builtin.len_, run_underlying (und_of_sli he)]; try rfl), rfl⟩
    · cases h
  · obtain rfl := hx
    split at h
    · rename_i e he
      cases h
      exact ⟨_, (by simp [Builtin.len_, run_underlying (und_of_sli he)]; try rfl), rfl⟩
    · cases h
  · obtain rfl := hx
    split at h
    · rename_i hs
      cases h
      exact ⟨_, (by simp [Builtin.len_, run_underlying (und_of_str hs)]; try rfl), rfl⟩
    · cases h
  · split at h
    · rename_i n e he
      cases h
      exact ⟨_, (by simp [Builtin.len_, run_underlying (und_of_arr he)]; try rfl), rfl⟩
    · cases h
  · cases h

theorem foldl_set (a : Array Value) (off : Nat) : ∀ (l : List Value) (k : Nat) (cur : Array Value), off + k + l.length ≤ cur.size →
    ((l.zipIdx k).foldl (fun cs (p : Value × Nat) => cs.setIfInBounds (off + p.2) p.1) cur).toList = cur.toList.take (off + k) ++ l ++ cur.toList.drop (off + k + l.length)
  | [], k, cur, h => by simp
  | v :: l, k, cur, h => by
    simp only [List.length_cons] at h
    simp only [List.zipIdx_cons, List.foldl_cons]
    rw [foldl_set a off l (k + 1) _ (by simp; omega)]
    simp only [Array.toList_setIfInBounds, List.length_cons]
    have hlt : off + k < cur.toList.length := by simp; omega
    rw [show off + (k + 1) = (off + k) + 1 by omega, List.take_succ_eq_append_getElem (by simpa using hlt)]
    simp only [List.getElem_set_self, List.take_set_of_le (Nat.le_refl _)]
    rw [List.drop_set_of_lt (by omega)]
    simp [List.append_assoc, show off + k + 1 + l.length = off + k + (l.length + 1) by omega]

theorem fill_sound {place : Nat → Option (Nat × TypeId)} {pl : Nat → Option (Nat × Nat)} {fz : D → D} (hfz : ∀ d v, Rep M w d v → Rep M w (fz d) v)
    (hp : ∀ i off t, place i = some (off, t) → ∃ n, pl i = some (off, n) ∧ szP P t = some n) (hi : AInv N M T σ a w) :
    ∀ (parts : List (Nat × Operand)) (cells out : List D), fillD place P T fz parts cells = some out → ∀ (cur : Array Value), RepAll M w cells cur.toList → (∀ u ∈ cur.toList, u.oneCell' = true) →
      ∃ res, Instr.fill pl cur (parts.map fun (i, x) => (i, a.eval x)) = some res ∧ RepAll M w out res.toList ∧ ∀ u ∈ res.toList, u.oneCell' = true
  | [], cells, out, h, cur, hr, h1 => by
    simp only [fillD, Option.some.injEq] at h; subst h
    exact ⟨cur, rfl, hr, h1⟩
  | (i, x) :: rest, cells, out, h, cur, hr, h1 => by
    simp only [fillD] at h
    split at h
    · cases h
    · rename_i off t hpl
      obtain ⟨n, hpl', hn⟩ := hp _ _ _ hpl
      split at h
      · rename_i cs hcs
        split at h
        · rename_i hle
          obtain ⟨c1, c2, c3⟩ := cellsD_rep hcs (ev_rep hi x)
          have hsz : (a.eval x).cells.size = n := Option.some.inj (c3.symm.trans hn)
          have hlen : cs.length = n := by rw [c1.length, ← hsz]; simp
          have hcur : cells.length = cur.size := by rw [hr.length]; simp
          have hf := foldl_set cur off (a.eval x).cells.toList 0 cur (by simp; omega)
          obtain ⟨cur', hcur'⟩ : ∃ c, c = (a.eval x).cells.zipIdx.foldl (fun cs (c, j) => cs.setIfInBounds (off + j) c) cur := ⟨_, rfl⟩
          have e : cur'.toList = cur.toList.take off ++ (a.eval x).cells.toList ++ cur.toList.drop (off + cs.length) := by
            rw [hcur', ← Array.foldl_toList]
            simp only [Array.toList_zipIdx]
            rw [hf]
            simp [hlen, hsz]
          have g1 : RepAll M w (layD cells off (cs.map fz)) cur'.toList := by
            rw [e]
            simp only [layD, List.length_map]
            refine ((hr.take off).append ?_).append (hr.drop _)
            refine (RepAll.iff _ _).2 ⟨by simpa using c1.length, fun j d v hd hv => ?_⟩
            simp only [List.getElem?_map, Option.map_eq_some_iff] at hd
            obtain ⟨d', hd', rfl⟩ := hd
            exact hfz _ _ (((RepAll.iff _ _).1 c1).2 j d' v hd' hv)
          have g2 : ∀ u ∈ cur'.toList, u.oneCell' = true := by
            rw [e]
            intro u hu
            simp only [List.mem_append] at hu
            rcases hu with (hu | hu) | hu
            · exact h1 u (List.mem_of_mem_take hu)
            · exact c2 u hu
            · exact h1 u (List.mem_of_mem_drop hu)
          obtain ⟨res, r1, r2, r3⟩ := fill_sound hfz hp hi rest _ out h cur' g1 g2
          refine ⟨res, ?_, r2, r3⟩
          simp only [List.map_cons, Instr.fill, hpl']
          rw [if_neg (by simp only [Bool.or_eq_true, bne_iff_ne, decide_eq_true_eq, ne_eq]; omega), ← hcur']
          exact r1
        · cases h
      · cases h
end
end Go.AL
