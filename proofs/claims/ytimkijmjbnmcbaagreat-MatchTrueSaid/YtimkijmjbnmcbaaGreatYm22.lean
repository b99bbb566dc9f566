/- Contracts: choices, and the iterator that it hands back. -/
import Derived.Laws.EntriesVeiled
import Derived.Test.YtimkijmjbnmcbaaGreatYm21
namespace Go.Proofs.YtimkijmjbnmcbaaGreat
open Go Go.RowKit Go.Shelf
attribute [local go_sem] Oper.semAt_some
set_option maxHeartbeats 1000000 in
theorem choices_ok (w : World) (n k : Int) (g : Nat) (lb : Array Value) :
    Calls Tryz.prog 33 #[.int .i64 n, .int .i64 k, .func (.func g) #[] lb] w fun e w' => e = .returned (.func (.func 67) #[] #[.pointer (some ⟨w.heap.size + 2, 0, none⟩), .pointer (some ⟨w.heap.size + 1, 0, none⟩), .pointer (some ⟨w.heap.size, 0, none⟩)]) ∧
      w' = ((w.alloc (.cells #[.int .i64 n] 3)).alloc (.cells #[.int .i64 k] 3)).alloc (.cells #[.func (.func g) #[] lb] 71) := by
  go_enter Tryz.func33, Tryz.ntmps33
  go_wp2
  go_ret
  exact ⟨rfl, rfl⟩
/-- What choices yields, in order. -/
theorem choices1_seq (w : World) (Pr : TSet) (bm bk bn gm : Nat) (lbm : Array Value) (may : List Int → Bool) (n : Int) (k : Nat) (hn : n ≤ 256) (hk : k ≤ 256)
    (hPm : Pr bm ∧ Pr bk ∧ Pr bn) (hPB : ∀ b, Pr b → b < w.heap.size)
    (cm : w.cell? ⟨bm, 0, none⟩ = some (.func (.func gm) #[] lbm)) (ck : w.cell? ⟨bk, 0, none⟩ = some (.int .i64 k)) (cn : w.cell? ⟨bn, 0, none⟩ = some (.int .i64 n))
    (em : ∀ args w, (callFunc gm args).run Tryz.prog w = .ok (.enter gm args) w)
    (hmay : ∀ W A c l, KB Pr w W → RInts W A l → (∀ v ∈ l, 0 ≤ v ∧ v < n) → l.length ≤ k → Calls Tryz.prog gm (#[.slice A l.length c] ++ lbm) W fun e W' => e = .returned (.bool (may l)) ∧ Ext W W') :
    Seq Tryz.prog 67 #[.pointer (some ⟨bm, 0, none⟩), .pointer (some ⟨bk, 0, none⟩), .pointer (some ⟨bn, 0, none⟩)] encLA Pr (RvL w.heap.size) (fun xs => xs.map (·.1) = chR n may k []) (fun pre => pre.map (·.1) <+: chR n may k []) w := by
  intro l J Jx W hW hJ hJx hY hs
  have z := hW.size
  obtain ⟨V, hV⟩ : ∃ V : World, V = ((W.alloc (.cells #[.func (.yield l) #[] #[]] 71)).alloc (.cells #[.func (.func 68) #[] #[.pointer (some ⟨bm, 0, none⟩), .pointer (some ⟨bk, 0, none⟩), .pointer (some ⟨W.heap.size, 0, none⟩), .pointer (some ⟨bn, 0, none⟩), .pointer (some ⟨W.heap.size + 1, 0, none⟩)]] 71)) := ⟨_, rfl⟩
  have hxV : Ext W V := by rw [hV]; exact ((Ext.rfl' _).al _).al _
  have hzV : V.heap.size = W.heap.size + 2 := by rw [hV]; simp
  have b1 : Blk V W.heap.size 71 #[.func (.yield l) #[] #[]] := by rw [hV]; exact (Blk.new _ _ _).ext ((Ext.rfl' _).al _)
  have b2 : Blk V (W.heap.size + 1) 71 #[.func (.func 68) #[] #[.pointer (some ⟨bm, 0, none⟩), .pointer (some ⟨bk, 0, none⟩), .pointer (some ⟨W.heap.size, 0, none⟩), .pointer (some ⟨bn, 0, none⟩), .pointer (some ⟨W.heap.size + 1, 0, none⟩)]] := by
    rw [hV]; have := Blk.new (W.alloc (.cells #[.func (.yield l) #[] #[]] 71)) 71 #[.func (.func 68) #[] #[.pointer (some ⟨bm, 0, none⟩), .pointer (some ⟨bk, 0, none⟩), .pointer (some ⟨W.heap.size, 0, none⟩), .pointer (some ⟨bn, 0, none⟩), .pointer (some ⟨W.heap.size + 1, 0, none⟩)]]
    rwa [World.size_alloc] at this
  have hc := ext_ok w Pr w.heap.size l W.heap.size (W.heap.size + 1) bm bk bn gm lbm may n k hn hk hPm hPB cm ck cn em hmay J Jx hJ hY k [] [] (fun b => b = W.heap.size ∨ b = W.heap.size + 1) V none 0 (by simp) (by simp)
    (hJ _ _ _ _ _ hs (KB.of_ext hxV) (fun _ h => h.elim) (fun b h => .inr (by rcases h with h | h <;> omega)))
    ⟨(KB.of_ext hW).tr (KB.of_ext hxV), by omega, fun b h => by rcases h with h | h <;> omega, .inl rfl, .inr rfl, b1.cell 0, b2.cell 0⟩
    (OwnG.nil EInt _ _ _) (fun b h => by cases h) (fun _ h => by cases h) List.prefix_rfl
  have Hc := hid hc
  clear hc hY hmay hs cm ck cn b1 b2
  refine (callsIn_wide (n := 3)).1 (callsIn_of_wp Tryz.func67 rfl trivial ?_ rfl)
  simp only [Tryz.ntmps67, List.size_toArray, List.length_cons, List.length_nil, Nat.reduceAdd, Nat.reduceSub, Array.replicate_succ, Array.replicate_zero, List.push_toArray, List.append_toArray, List.nil_append, List.cons_append]
  gi_wp2
  rw [← hV]
  clear hV
  refine ⟨trivial, (callsIn_wide.2 Hc.out).mono ?_⟩
  clear Hc
  rintro e W3 (⟨rfl, ys, T', hys, hj, -, -⟩ | ⟨rfl, ys, T', hp, hjx⟩)
  · have Hys := hid hys
    clear hys
    gi_wp2
    go_end0
    exact ⟨⟨_, rfl⟩, .inl ⟨_, _, Hys.out, hj⟩⟩
  · have Hp := hid hp
    clear hp
    gi_wp2
    go_end0
    exact ⟨⟨_, rfl⟩, .inr ⟨_, _, Hp.out, hjx⟩⟩
end Go.Proofs.YtimkijmjbnmcbaaGreat
