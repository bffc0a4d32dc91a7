/- WholeImage, part 2 of 38: contracts and lemmas of its proof. Conditions: none. -/
import Derived.Test.YtaaihijkdhmcdaaGreatDoorW00
import Derived.Deep.OwnRows
import Derived.Laws.OwnMore
import Derived.Laws.Rows
import Derived.Laws.CopyRow
import Derived.Laws.CopyOwn
import Derived.Laws.ResultCell
import Derived.Test.YtaaihijkdhmcdaaGreatDoorProg
import Derived.WalkKit
set_option linter.unusedVariables false
set_option linter.unusedSimpArgs false
set_option maxRecDepth 100000
namespace Go.Proofs.YtaaihijkdhmcdaaGreatDoor
section
open Go Go.RowKit
section
variable {P:Program} (w:World) (ts:Array TypeId) (t:TypeId) (k k1 k2 k3:IntKind) (x y z u:Int)
theorem run_min2:(Builtin.min_ ts t #[.int k x,.int k1 y]).run P w=.ok (.int k (min x y)) w:=by
 have e:(if y<x then y else x)=min x y:=by omega
 simp [Builtin.min_,Builtin.min2,e]
theorem run_max2:(Builtin.max_ ts t #[.int k x,.int k1 y]).run P w=.ok (.int k (max x y)) w:=by
 have e:(if x<y then y else x)=max x y:=by omega
 simp [Builtin.max_,Builtin.max2,e]
theorem addr_zero (a:Addr):a.add 0=a:=rfl
theorem run_make_n {t e:TypeId}{z:Value}{bytes:Nat}(ht:P.underlying t=some (.slice e))(hinfo:(P.info? e).map (fun i=>(i.zero,i.size,i.bytes))=some (some z,1,bytes))(hz1:z.cells=#[z])
  (kl kc:IntKind) (n:Nat) (hbytes:bytes*n≤281474976710656) (h63:n≤9223372036854775807) (w:World) :
  (Instr.makeSlice t (.int kl (n:Int)) (.int kc (n:Int))).run P w=.ok (.slice (some ⟨w.heap.size,0,none⟩) n n) (w.alloc (.cells (Array.replicate n z) e)):=by
 rw [run_make_row' t e z bytes ht hinfo hz1 kl kc n hbytes h63 w]
 congr 3
 apply Array.ext
 ·simp [madeCells]
 ·intro i h1 h2;simp [madeCells,Nat.mod_one]
end
theorem ok_ite_bool (c:Prop)[Decidable c](x y:Bool)(w:World):(if c then (Result.ok (Next.value (Value.bool x)) w) else (Result.ok (Next.value (Value.bool y)) w))=Result.ok (Next.value (Value.bool (if c then x else y))) w:=by split<;>rfl
attribute [go_sem] ok_ite_bool
attribute [go_sem high] run_min2 run_max2
attribute [go_sem] addr_zero Option.map_id' ite_self
def Blk (w:World)(b:Nat)(C:Array Value)(e:TypeId):Prop:=w.heap[b]?=some (.cells C e (0,0))
section
variable {w:World} {b:Nat} {C:Array Value} {e:TypeId}
theorem Blk.lt (h:Blk w b C e):b<w.heap.size:=by
 rcases Nat.lt_or_ge b w.heap.size with h'|h'
 ·exact h'
 ·unfold Blk at h;rw [Array.getElem?_eq_none h'] at h;cases h
theorem Blk.cell (h:Blk w b C e)(i:Nat):w.cell? ⟨b,i,none⟩=C[i]?:=by
 show (match w.heap[b]? with|some (.cells c _ _)=>if (none:Option Nat).isSome then none else c[i]?|_=>none)=_;rw [show w.heap[b]?=_ from h];rfl
theorem Blk.thaw (h:Blk w b C e)(i:Nat):w.frozen? ⟨b,i,none⟩=false:=by
 show (match w.heap[b]? with|some (.cells _ _ (lo,hi))=>decide (lo≤i)&&decide (i<hi)|_=>false)=_;rw [show w.heap[b]?=_ from h];simp
theorem Blk.set (h:Blk w b C e)(i:Nat)(v:Value):Blk (w.setCell ⟨b,i,none⟩ v) b (C.setIfInBounds i v) e:=by
 unfold Blk at h ⊢;simp [World.setCell,Array.getElem?_modify,h]
theorem Blk.setOther (h:Blk w b C e){a:Addr}(ha:a.block≠b)(v:Value):Blk (w.setCell a v) b C e:=by
 unfold Blk at h ⊢;rw [← h];simp only [World.setCell,Array.getElem?_modify];rw [if_neg ha]
theorem Blk.alloc (h:Blk w b C e)(o:Obj):Blk (w.alloc o) b C e:=by
 have:=h.lt;unfold Blk at h ⊢;rw [← h];show (w.heap.push o)[b]?=_;rw [Array.getElem?_push,if_neg (by omega)]
theorem Blk.drew (h:Blk w b C e):Blk w.drew b C e:=h
theorem new_facts {w w':World}{C:Array Value}{e:TypeId}(h:w.alloc (.cells C e)=w'):Blk w' w.heap.size C e∧Below w.heap.size w w'∧w'.heap.size=w.heap.size+1:=by
 subst h;refine ⟨?_,(Below.refl _ _).alloc (Nat.le_refl _) _,by simp⟩;show (w.heap.push _)[w.heap.size]?=_;rw [Array.getElem?_push_size]
theorem btr {a b c:World}(h:Below a.heap.size a b)(k:Below b.heap.size b c):Below a.heap.size a c:=h.trans (k.mono h.size)
theorem newF {w0 w w':World}{C:Array Value}{e:TypeId}(h:w.alloc (.cells C e)=w')(hb:Below w0.heap.size w0 w):Blk w' w.heap.size C e∧Below w.heap.size w w'∧w'.heap.size=w.heap.size+1∧Below w0.heap.size w0 w' :=
 ⟨(new_facts h).1,(new_facts h).2.1,(new_facts h).2.2,btr hb (new_facts h).2.1⟩
theorem Blk.new (w:World)(C:Array Value)(e:TypeId):Blk (w.alloc (.cells C e)) w.heap.size C e:=by
 show (w.heap.push _)[w.heap.size]?=_;rw [Array.getElem?_push_size]
theorem Blk.next {w':World}(h:Blk w b C e)(hb:Below w.heap.size w w'):Blk w' b C e:=(hb.block b h.lt).trans h
theorem Blk.below {w':World}{B:Nat}(h:Blk w b C e)(hb:Below B w w')(hB:b<B):Blk w' b C e:=(hb.block b hB).trans h
end
end
section
open Go Go.RowKit
section
variable {P:Program} {w:World}
def SrcAt (w:World)(a:Option Addr)(news:List Value):Prop :=
 (a=none∧news=[])∨∃ x,a=some x∧∀ j u,news[j]?=some u→w.cell? (x.add j)=some u
theorem run_append1 (base:Nat){t e:TypeId}{z:Value}{bytes:Nat}(ty:TypeId)(ht:P.underlying t=some (.slice e))(hinfo:(P.info? e).map (fun i=>(i.zero,i.size,i.bytes))=some (some z,1,bytes))(hz:z.cells=#[z])
  {a:Option Addr} {len cap:Nat} {xs:List Value} (hown:w.ownsRow base e 1 (.slice a len cap) len xs)
  {a2:Option Addr} {m c2:Nat} {news:List Value} (hl:news.length=m) (hsrc:SrcAt w a2 news) (hc2:a2=none→c2=0) (h1:∀ u∈news,u.oneCell'=true)
  (h63:len+m≤9223372036854775807) (hbytes:(len+m)*bytes≤140737488355328) (hbase:base≤w.heap.size) :
  ∃ a' cap' w',(appendB #[t,t] ty #[.slice a len cap,.slice a2 m c2]).run P w=.ok (.slice a' (len+m) cap') w' ∧
   w'.ownsRow base e 1 (.slice a' (len+m) cap') (len+m) (xs++news)∧w.grownBy w' (Value.ownBlock (.slice a len cap)):=by
 unfold appendB;obtain ⟨i,hi,hzz⟩:=Option.map_eq_some_iff.1 hinfo;simp only [Prod.mk.injEq] at hzz;obtain ⟨hz0,hs,hb⟩:=hzz
 rcases hsrc with ⟨rfl,rfl⟩|⟨x,rfl,hx⟩
 ·have hm:m=0:=by simpa using hl.symm
  subst hm;rw [hc2 rfl];refine ⟨a,cap,w,?_,by simpa using hown,⟨rfl,rfl,rfl,Nat.le_refl _,fun _ _ _=>rfl⟩⟩;exact run_append_owned_none w base t ty e i 1 ht hi _ _ _ hown
 ·obtain ⟨v',w',hr,ho,hg,_⟩:=run_append_own w base t ty e i z 1 bytes ht hi hz0 hs hb (by rw [hz];rfl) (by decide) _ _ _ hown x m c2 news (by omega) hx h1 (by unfold maxLen;omega) hbytes hbase
  rcases ho.2 with ⟨rfl,h0⟩|⟨g,cap',cur,rfl,h⟩
  ·refine ⟨none,0,w',?_,?_,hg⟩
   ·rw [h0] ;exact hr
   ·rw [h0] at ho ⊢;exact ho
  ·exact ⟨_,cap',w',hr,ho,hg⟩
end
end
section
open Go Go.RowKit
def SlAt {n:Nat}(k:IntKind)(w:World)(a:Option Addr)(l:List (BitVec n)):Prop :=
 l=[]∨∃ b off,a=some ⟨b,off,none⟩∧∀ i (h:i<l.length),w.cell? ⟨b,off+i,none⟩=some (.int k (uv l[i]))
structure SlIn {n:Nat} (k:IntKind) (w:World) (a:Option Addr) (l:List (BitVec n)) (cap:Nat):Prop where
 at_:SlAt k w a l
 le:l.length≤cap
 max:cap≤9223372036854775807
 nil:a=none→cap=0
section
variable {n:Nat} {k:IntKind} {w w':World} {a:Option Addr} {l:List (BitVec n)} {cap:Nat}
theorem SlAt.below (h:SlAt k w a l)(hb:Below w.heap.size w w'):SlAt k w' a l:=by
 rcases h with h|⟨b,off,rfl,hc⟩
 ·exact .inl h
 ·exact .inr ⟨b,off,rfl,fun i hi=>(hb.cell (p:=⟨_,_,none⟩) (World.block_lt_of_cell? w _ (hc i hi))).trans (hc i hi)⟩
theorem SlAt.next (h:SlAt k w a l)(hb:Below w.heap.size w w'):SlAt k w' a l:=h.below hb
theorem SlAt.take (h:SlAt k w a l)(m:Nat):SlAt k w a (l.take m):=by
 rcases h with h|⟨b,off,rfl,hc⟩
 ·subst h;exact .inl (by simp)
 ·refine .inr ⟨b,off,rfl,fun i hi=>?_⟩;rw [hc i (by simp at hi;omega)];simp
theorem SlIn.below (h:SlIn k w a l cap)(hb:Below w.heap.size w w'):SlIn k w' a l cap:=⟨h.at_.below hb,h.le,h.max,h.nil⟩
theorem SlIn.next (h:SlIn k w a l cap)(hb:Below w.heap.size w w'):SlIn k w' a l cap:=h.below hb
def cellsK {n:Nat}(k:IntKind)(l:List (BitVec n)):List Value:=l.map fun x=>.int k (uv x)
theorem cellsK_length:(cellsK k l).length=l.length:=by simp [cellsK]
theorem cellsK_append (a b:List (BitVec n)):cellsK k (a++b)=cellsK k a++cellsK k b:=by simp [cellsK]
theorem cellsK_one:∀ u∈cellsK k l,u.oneCell'=true:=fun u hu=>by simp [cellsK] at hu;obtain ⟨x,_,rfl⟩:=hu;rfl
theorem SlAt.src (h:SlAt k w a l):SrcAt w a (cellsK k l):=by
 rcases h with rfl|⟨b,off,rfl,hc⟩
 ·cases a with
  | none=>exact .inl ⟨rfl,rfl⟩
  | some x=>exact .inr ⟨x,rfl,fun j u hu=>by simp [cellsK] at hu⟩
 ·refine .inr ⟨_,rfl,fun j u hu=>?_⟩;rw [Addr.add_lit];have hj:j<l.length:=by
   rcases Nat.lt_or_ge j l.length with h'|h'
   ·exact h'
   ·rw [List.getElem?_eq_none (by rw [cellsK_length];exact h')] at hu;cases hu
  rw [hc j hj];simp [cellsK,hj] at hu;rw [hu]
theorem owns_sl {base m:Nat}{e:TypeId}(hl:l.length=m)(h:w.ownsRow base e 1 (.slice a m cap) m (cellsK k l)):SlAt k w a l:=by
 obtain ⟨_,⟨hv,h0⟩|⟨g,cap2,cur,hv,hg,hblk,hcap,_,hsz,htake⟩⟩:=h
 ·exact .inl (List.eq_nil_of_length_eq_zero (by omega))
 ·simp only [Value.slice.injEq] at hv;obtain ⟨rfl,_,rfl⟩:=hv;have hblk:Blk w g cur e:=hblk;refine Or.inr ⟨_,_,rfl,fun i hi=>?_⟩;rw [Nat.zero_add,hblk.cell];rw [Nat.mul_one] at htake;have h1:=congrArg (fun z:List Value=>z[i]?) htake;simp only [List.getElem?_take,show i<m by omega,if_true,Array.getElem?_toList] at h1;rw [h1];simp [cellsK,hi]
theorem owns_slIn {base m:Nat}{e:TypeId}(hl:l.length=m)(h:w.ownsRow base e 1 (.slice a m cap) m (cellsK k l)):SlIn k w a l cap:=by
 refine ⟨owns_sl hl h,?_,?_,?_⟩
 all_goals
  obtain ⟨_,⟨hv,h0⟩|⟨g,cap2,cur,hv,hg,hblk,hcap,hm,hsz,htake⟩⟩:=h
  ·simp only [Value.slice.injEq] at hv;obtain ⟨_,_,rfl⟩:=hv
   first
   | omega
   | simp
  ·simp only [Value.slice.injEq] at hv;obtain ⟨rfl,_,rfl⟩:=hv
   first
   | omega
   | (unfold maxLen at hm;omega)
   | simp
theorem slAt_blk {b:Nat}{C:Array Value}{e:TypeId}(h:Blk w b C e)(hC:∀ i (hi:i<l.length),C[i]?=some (.int k (uv l[i]))):SlAt k w (some ⟨b,0,none⟩) l :=
 Or.inr ⟨_,_,rfl,fun i hi=>by rw [Nat.zero_add,h.cell,hC i hi]⟩
theorem SlAt.cell (h:SlAt k w a l){i:Nat}(hi:i<l.length):∃ b off,a=some ⟨b,off,none⟩∧w.cell? ⟨b,off+i,none⟩=some (.int k (uv l[i])):=by
 rcases h with rfl|⟨b,off,rfl,hc⟩
 ·simp at hi
 ·exact ⟨b,off,rfl,hc i hi⟩
theorem SlAt.cellD (h:SlAt k w a l){i:Nat}(hi:i<l.length):∃ b off,a=some ⟨b,off,none⟩∧w.cell? ⟨b,off+i,none⟩=some (.int k (uv (l.getD i 0#n))):=by
 obtain ⟨b,off,h1,h2⟩:=h.cell hi;exact ⟨b,off,h1,by rw [h2];simp [List.getD,hi]⟩
end
end
section
open Go Go.RowKit
def VsAt (w:World)(a:Option Addr)(l:List Value):Prop :=
 l=[]∨∃ b off,a=some ⟨b,off,none⟩∧∀ i (h:i<l.length),w.cell? ⟨b,off+i,none⟩=some l[i]
structure VsIn (w:World) (a:Option Addr) (l:List Value) (cap:Nat):Prop where
 at_:VsAt w a l
 le:l.length≤cap
 max:cap≤9223372036854775807
 nil:a=none→cap=0
section
variable {w w':World} {a:Option Addr} {l:List Value} {cap:Nat}
theorem VsAt.below (h:VsAt w a l)(hb:Below w.heap.size w w'):VsAt w' a l:=by
 rcases h with h|⟨b,off,rfl,hc⟩
 ·exact .inl h
 ·exact .inr ⟨b,off,rfl,fun i hi=>(hb.cell (p:=⟨_,_,none⟩) (World.block_lt_of_cell? w _ (hc i hi))).trans (hc i hi)⟩
theorem VsAt.next (h:VsAt w a l)(hb:Below w.heap.size w w'):VsAt w' a l:=h.below hb
theorem VsAt.cell (h:VsAt w a l){i:Nat}(hi:i<l.length):∃ b off,a=some ⟨b,off,none⟩∧w.cell? ⟨b,off+i,none⟩=some l[i]:=by
 rcases h with rfl|⟨b,off,rfl,hc⟩
 ·simp at hi
 ·exact ⟨b,off,rfl,hc i hi⟩
theorem VsAt.src (h:VsAt w a l):SrcAt w a l:=by
 rcases h with rfl|⟨b,off,rfl,hc⟩
 ·cases a with
  | none=>exact .inl ⟨rfl,rfl⟩
  | some x=>exact .inr ⟨x,rfl,fun j u hu=>by simp at hu⟩
 ·refine .inr ⟨_,rfl,fun j u hu=>?_⟩;rw [Addr.add_lit];have hj:j<l.length:=by
   rcases Nat.lt_or_ge j l.length with h'|h'
   ·exact h'
   ·rw [List.getElem?_eq_none h'] at hu;cases hu
  rw [hc j hj];simp [hj] at hu;rw [hu]
theorem VsIn.below (h:VsIn w a l cap)(hb:Below w.heap.size w w'):VsIn w' a l cap:=⟨h.at_.below hb,h.le,h.max,h.nil⟩
theorem VsIn.next (h:VsIn w a l cap)(hb:Below w.heap.size w w'):VsIn w' a l cap:=h.below hb
theorem owns_vsIn {base m:Nat}{e:TypeId}(hl:l.length=m)(h:w.ownsRow base e 1 (.slice a m cap) m l):VsIn w a l cap:=by
 obtain ⟨_,⟨hv,h0⟩|⟨g,cap2,cur,hv,hg,hblk,hcap,hm,hsz,htake⟩⟩:=h
 ·simp only [Value.slice.injEq] at hv;obtain ⟨rfl,_,rfl⟩:=hv;exact ⟨.inl (List.eq_nil_of_length_eq_zero (by omega)),by omega,by simp,fun _=>rfl⟩
 ·simp only [Value.slice.injEq] at hv;obtain ⟨rfl,_,rfl⟩:=hv;have hblk:Blk w g cur e:=hblk;refine ⟨Or.inr ⟨_,_,rfl,fun i hi=>?_⟩,by omega,by unfold maxLen at hm;omega,fun h=>by cases h⟩;rw [Nat.zero_add,hblk.cell];rw [Nat.mul_one] at htake;have h1:=congrArg (fun z:List Value=>z[i]?) htake;simp only [List.getElem?_take,show i<m by omega,if_true,Array.getElem?_toList] at h1;rw [h1];simp [hi]
theorem vsAt_blk {b:Nat}{C:Array Value}{e:TypeId}(h:Blk w b C e)(hC:∀ i (hi:i<l.length),C[i]?=some l[i]):VsAt w (some ⟨b,0,none⟩) l :=
 Or.inr ⟨_,_,rfl,fun i hi=>by rw [Nat.zero_add,h.cell,hC i hi]⟩
end
theorem ownsRow_next {w w':World}{B:Nat}{e:TypeId}{k:Nat}{v:Value}{n:Nat}{xs:List Value}(h:w.ownsRow B e k v n xs)(hb:Below w.heap.size w w'):w'.ownsRow B e k v n xs:=by
 obtain ⟨h1,h2⟩:=h;refine ⟨h1,?_⟩
 rcases h2 with h2|⟨g,cap,cur,hv,hg,hh,r⟩
 ·exact Or.inl h2
 ·have hB:Blk w g cur e:=hh;exact Or.inr ⟨g,cap,cur,hv,hg,hB.next hb,r⟩
def nats (l:List Nat):List Value:=l.map fun (i:Nat)=>.int .i64 (i:Int)
theorem nats_length (l:List Nat):(nats l).length=l.length:=by simp [nats]
theorem nats_append (a b:List Nat):nats (a++b)=nats a++nats b:=by simp [nats]
end
section
open Go Go.RowKit
def isAggD:TypeDesc→Bool
 | .struct _ | .array _ _=>true
 | _=>false
def segPut (C:Array Value)(o:Nat)(cs:Array Value):Array Value:=(C.toList.take o++cs.toList++C.toList.drop (o+cs.size)).toArray
theorem segPut_size (C:Array Value)(o:Nat)(cs:Array Value)(h:o+cs.size≤C.size):(segPut C o cs).size=C.size:=by
 simp [segPut];omega
theorem segPut_all (C cs:Array Value)(h:cs.size=C.size):segPut C 0 cs=cs:=by
 have h2:C.toList.drop C.size=[]:=by simp
 unfold segPut;rw [Nat.zero_add,h,h2];simp
theorem segPut_get (C:Array Value)(o:Nat)(cs:Array Value)(h:o+cs.size≤C.size)(i:Nat):(segPut C o cs)[i]?=if o≤i∧i<o+cs.size then cs[i-o]? else C[i]?:=by
 unfold segPut;rw [List.getElem?_toArray,List.getElem?_append,List.getElem?_append];have h1:(C.toList.take o).length=o:=by simp;omega
 simp only [List.length_append,h1,Array.length_toList];by_cases h2:i<o
 ·rw [if_pos (by omega),if_pos h2,if_neg (by omega),List.getElem?_take,if_pos h2,Array.getElem?_toList]
 ·by_cases h3:i<o+cs.size
  ·rw [if_pos h3,if_neg h2,if_pos (by omega),Array.getElem?_toList]
  ·rw [if_neg h3,if_neg (by omega),List.getElem?_drop,Array.getElem?_toList]
   congr 1;omega
section
variable {P:Program} {w:World} {g:Nat} {C:Array Value} {t:TypeId}
theorem Blk.row (h:Blk w g C t)(C':Array Value):Blk (w.setRow g C') g C' t:=setRow_heap w g C C' t (0,0) h
theorem Blk.rowOther {b:Nat}{D:Array Value}{u:TypeId}(h:Blk w b D u)(hb:b≠g)(C':Array Value):Blk (w.setRow g C') b D u:=by
 unfold Blk at h ⊢;rw [setRow_other w g b C' hb];exact h
theorem Below.row {B:Nat}{w0:World}(h:Below B w0 w)(hg:B≤g)(C':Array Value):Below B w0 (w.setRow g C'):=below_setRow h hg C'
theorem run_loadVar_seg {ty:TypeId}{d:TypeDesc}{o n:Nat}(h:Blk w g C t)(hu:P.underlying ty=some d)(hd:isAggD d=true)(hi:(P.info? ty).map (·.size)=some n)(ho:o+n≤C.size) :
  (loadVar ty ⟨g,o,none⟩).run P w=.ok (.agg (C.extract o (o+n))) w:=by
 have hls:(C.extract o (o+n)).toList.length=n:=by simp;omega
 have hl:=run_loadCells_list (P:=P) w ⟨g,o,none⟩ (C.extract o (o+n)).toList (fun j v hv=>by
   have hadd:(⟨g,o,none⟩:Addr).add j=⟨g,o+j,none⟩:=by unfold Addr.add;split<;>simp_all
   have hj:j<n:=by
    rcases Nat.lt_or_ge j n with h|h
    ·exact h
    ·rw [List.getElem?_eq_none (by omega)] at hv;cases hv
   rw [hadd,h.cell];rw [Array.getElem?_toList,Array.getElem?_extract] at hv;rw [if_pos (by omega)] at hv;exact hv)
 rw [hls] at hl;cases hq:P.info? ty with
 | none=>simp [hq] at hi
 | some i =>
  have hs:i.size=n:=by simpa [hq] using hi
  have hagg:(isAgg ty).run P w=.ok true w:=by
   unfold isAgg;rw [Sem.run_bind,run_underlying hu w];cases d<;>simp_all [isAggD]
  simp only [Array.toArray_toList] at hl;simp [loadVar,Sem.run_bind,hagg,sizeOf,typeInfo,hq,hs,hl]
theorem run_storeVar_seg {ty:TypeId}{o:Nat}{cs:Array Value}(h:Blk w g C t)(hi:(P.info? ty).map (·.size)=some cs.size)(ho:o+cs.size≤C.size)(h1:∀ v∈cs.toList,v.oneCell'=true) :
  (storeVar ty ⟨g,o,none⟩ (.agg cs)).run P w=.ok () (w.setRow g (segPut C o cs)):=by
 have hst:=run_storeCells_at P g o t cs.toList 0 C w h (by simpa using ho) h1;simp only [Nat.add_zero,Array.length_toList] at hst;cases hq:P.info? ty with
 | none=>simp [hq] at hi
 | some i =>
  have hs:i.size=cs.size:=by simpa [hq] using hi
  simp [storeVar,Sem.run_bind,sizeOf,typeInfo,hq,hs,Value.cells,hst,segPut]
theorem run_loadVar_cells {ty:TypeId}{d:TypeDesc}{o n:Nat}{cs:Array Value}(hu:P.underlying ty=some d)(hd:isAggD d=true)(hi:(P.info? ty).map (·.size)=some n)(hn:cs.size=n)(h:∀ j (hj:j<cs.size),w.cell? ⟨g,o+j,none⟩=some cs[j]) :
  (loadVar ty ⟨g,o,none⟩).run P w=.ok (.agg cs) w:=by
 have hl:=run_loadCells_list (P:=P) w ⟨g,o,none⟩ cs.toList (fun j v hv=>by
   have hadd:(⟨g,o,none⟩:Addr).add j=⟨g,o+j,none⟩:=by unfold Addr.add;split<;>simp_all
   have hj:j<cs.size:=by
    rcases Nat.lt_or_ge j cs.size with h|h
    ·exact h
    ·rw [List.getElem?_eq_none (by simpa using h)] at hv;cases hv
   rw [hadd,h j hj];rw [Array.getElem?_toList,Array.getElem?_eq_getElem hj] at hv;exact hv)
 rw [Array.length_toList,hn] at hl;cases hq:P.info? ty with
 | none=>simp [hq] at hi
 | some i =>
  have hs:i.size=n:=by simpa [hq] using hi
  have hagg:(isAgg ty).run P w=.ok true w:=by
   unfold isAgg;rw [Sem.run_bind,run_underlying hu w];cases d<;>simp_all [isAggD]
  simp only [Array.toArray_toList] at hl;simp [loadVar,Sem.run_bind,hagg,sizeOf,typeInfo,hq,hs,hl]
theorem ldCells {ty:TypeId}{d:TypeDesc}{o n:Nat}{cs:Array Value}(hu:P.underlying ty=some d)(hd:isAggD d=true)(hi:(P.info? ty).map (·.size)=some n)(hn:cs.size=n)(h:∀ j (hj:j<cs.size),w.cell? ⟨g,o+j,none⟩=some cs[j]) :
  ∀ (e:Env) (dst:Option Tmp) (x:Operand) (ty':TypeId) (pos:String) (af:Array Edge) (gd:Option (Nat × Bool)),ev e x=.pointer (some ⟨g,o,none⟩)→xOp P e ⟨dst,.load ty x,ty',pos,af,gd⟩ w=.ok (.value (.agg cs)) w:=by
 intro e dst x ty' pos af gd hx;rw [xOp_eq];unfold execOp;simp only [hx,Instr.loadAt,Instr.sureAddr,Sem.run_bind,Sem.run_pure,Result.andThen_ok,run_loadVar_cells hu hd hi hn h]
theorem ldE {ty:TypeId}{d:TypeDesc}{o n:Nat}{cs:Array Value}(h:Blk w g C t)(hu:P.underlying ty=some d)(hd:isAggD d=true)(hi:(P.info? ty).map (·.size)=some n)(ho:o+n≤C.size)(hc:C.extract o (o+n)=cs) :
  ∀ (e:Env) (dst:Option Tmp) (x:Operand) (ty':TypeId) (pos:String) (af:Array Edge) (gd:Option (Nat × Bool)),ev e x=.pointer (some ⟨g,o,none⟩)→xOp P e ⟨dst,.load ty x,ty',pos,af,gd⟩ w=.ok (.value (.agg cs)) w:=by
 intro e dst x ty' pos af gd hx;rw [xOp_eq];unfold execOp;simp only [hx,Instr.loadAt,Instr.sureAddr,Sem.run_bind,Sem.run_pure,Result.andThen_ok,run_loadVar_seg h hu hd hi ho,hc]
theorem stE {ty:TypeId}{o:Nat}{cs:Array Value}(h:Blk w g C t)(hi:(P.info? ty).map (·.size)=some cs.size)(ho:o+cs.size≤C.size)(h1:∀ v∈cs.toList,v.oneCell'=true) :
  ∀ (e:Env) (dst:Option Tmp) (x y:Operand) (ty':TypeId) (pos:String) (af:Array Edge) (gd:Option (Nat × Bool)),ev e x=.pointer (some ⟨g,o,none⟩)→ev e y=.agg cs→xOp P e ⟨dst,.store ty x y,ty',pos,af,gd⟩ w=.ok .skip (w.setRow g (segPut C o cs)):=by
 intro e dst x y ty' pos af gd hx hy;rw [xOp_eq];unfold execOp;simp only [hx,hy,Instr.storeAt,Instr.sureAddr,Sem.run_bind,Sem.run_pure,Result.andThen_ok,run_storeVar_seg h hi ho h1]
theorem ldAll {ty:TypeId}{d:TypeDesc}{n:Nat}(h:Blk w g C t)(hu:P.underlying ty=some d)(hd:isAggD d=true)(hi:(P.info? ty).map (·.size)=some n)(hn:C.size=n) :
  ∀ (e:Env) (dst:Option Tmp) (x:Operand) (ty':TypeId) (pos:String) (af:Array Edge) (gd:Option (Nat × Bool)),ev e x=.pointer (some ⟨g,0,none⟩)→xOp P e ⟨dst,.load ty x,ty',pos,af,gd⟩ w=.ok (.value (.agg C)) w :=
 ldE h hu hd hi (by omega) (by subst hn;simp)
theorem stAll {ty:TypeId}{cs:Array Value}(h:Blk w g C t)(hi:(P.info? ty).map (·.size)=some cs.size)(hs:cs.size=C.size)(h1:∀ v∈cs.toList,v.oneCell'=true) :
  ∀ (e:Env) (dst:Option Tmp) (x y:Operand) (ty':TypeId) (pos:String) (af:Array Edge) (gd:Option (Nat × Bool)),ev e x=.pointer (some ⟨g,0,none⟩)→ev e y=.agg cs→xOp P e ⟨dst,.store ty x y,ty',pos,af,gd⟩ w=.ok .skip (w.setRow g cs):=by
 have:=stE (P:=P) (o:=0) h hi (by omega) h1;rw [segPut_all C cs hs] at this;exact this
theorem alloc_setRow (w:World)(C C':Array Value)(t:TypeId):(w.alloc (.cells C t)).setRow w.heap.size C'=w.alloc (.cells C' t):=by
 have h:(w.heap.push (Obj.cells C t)).modify w.heap.size (fun
   | .cells _ elem frozen=>.cells C' elem frozen
   | o=>o)=w.heap.push (Obj.cells C' t):=by
  apply Array.ext_getElem?;intro i;rw [Array.getElem?_modify,Array.getElem?_push,Array.getElem?_push];by_cases h:i=w.heap.size
  ·subst h;simp
  ·rw [if_neg (fun e=>h e.symm),if_neg h,if_neg h]
 exact congrArg (fun h=>World.mk h w.tape w.drawn w.os w.output) h
theorem stNew {ty:TypeId}{cs C0:Array Value}(hi:(P.info? ty).map (·.size)=some cs.size)(hs:cs.size=C0.size)(h1:∀ v∈cs.toList,v.oneCell'=true) :
  ∀ (w:World) (e:Env) (dst:Option Tmp) (x y:Operand) (ty':TypeId) (pos:String) (af:Array Edge) (gd:Option (Nat × Bool)),ev e x=.pointer (some ⟨w.heap.size,0,none⟩)→ev e y=.agg cs→xOp P e ⟨dst,.store ty x y,ty',pos,af,gd⟩ (w.alloc (.cells C0 t))=.ok .skip (w.alloc (.cells cs t)):=by
 intro w e dst x y ty' pos af gd hx hy;rw [stAll (Blk.new w C0 t) hi hs h1 e dst x y ty' pos af gd hx hy,alloc_setRow]
theorem bodyCell {fn:Func}{R:Value→World→Prop}{e:Env}(p u:Tmp){ty t':TypeId}{g:Nat}{cs:Array Value}{d:TypeDesc}{t:Tag (bodyR P fn R,Exit.ret)}(h:fn.results=#[.cell p ty,.tmp u])(hp:e p=.pointer (some ⟨g,0,none⟩))(hB:Blk w g cs t')
  (hu:P.underlying ty=some d) (hd:isAggD d=true) (hi:(P.info? ty).map (·.size)=some cs.size) (hR:R (.tuple #[.agg cs,e u]) w):goE (bodyR P fn R) .ret t e w:=by
 intro tmps ht;refine ⟨_,?_,hR⟩;rw [results_cell_tmp h tmps P w,ht,ht,hp];show ((loadVar ty ⟨g,0,none⟩).run P w).andThen _=_;rw [run_loadVar_row w g t' ty cs (0,0) d hB hu (by cases d<;>simp_all [isAggD]) hi];rfl
end
end
section
open Go Go.RowKit
structure Mod (F:Nat→Prop) (w w':World):Prop where
 os:w'.os=w.os
 tape:w'.tape=w.tape
 output:w'.output=w.output
 size:w.heap.size≤w'.heap.size
 block:∀ k,k<w.heap.size→¬ F k→w'.heap[k]?=w.heap[k]?
section
variable {F G:Nat→Prop} {w w1 w2 w':World}
theorem Mod.refl (F:Nat→Prop)(w:World):Mod F w w:=⟨rfl,rfl,rfl,Nat.le_refl _,fun _ _ _=>rfl⟩
theorem Mod.trans (h:Mod F w w1)(k:Mod G w1 w2)(hG:∀ k,G k→k<w.heap.size→F k):Mod F w w2 :=
 ⟨k.os.trans h.os,k.tape.trans h.tape,k.output.trans h.output,Nat.le_trans h.size k.size,
  fun i hi hF=>(k.block i (Nat.lt_of_lt_of_le hi h.size) (fun hg=>hF (hG i hg hi))).trans (h.block i hi hF)⟩
theorem Mod.mono (h:Mod F w w')(hG:∀ k,F k→k<w.heap.size→G k):Mod G w w':=⟨h.os,h.tape,h.output,h.size,fun i hi hg=>h.block i hi fun hf=>hg (hG i hf hi)⟩
theorem Mod.of (h:Below w.heap.size w w'):Mod F w w':=⟨h.os,h.tape,h.output,h.size,fun i hi _=>h.block i hi⟩
theorem Mod.below {B:Nat}(h:Mod F w w')(hB:B≤w.heap.size)(hF:∀ k,F k→B≤k):Below B w w' :=
 ⟨h.os,h.tape,h.output,h.size,fun i hi=>h.block i (by omega) (fun hf=>by have:=hF i hf;omega)⟩
theorem Mod.drew (h:Mod F w w'):Mod F w w'.drew:=⟨h.os,h.tape,h.output,h.size,h.block⟩
theorem Mod.alloc (h:Mod F w w')(o:Obj):Mod F w (w'.alloc o) :=
 h.trans (Mod.of (F:=fun _=>False) ((Below.refl _ _).alloc (Nat.le_refl _) o)) (fun _ h _=>h.elim)
theorem Mod.setCell (h:Mod F w w'){a:Addr}(ha:F a.block∨w.heap.size≤a.block)(v:Value):Mod F w (w'.setCell a v) :=
 ⟨h.os,h.tape,h.output,by have:=h.size;simpa [World.setCell] using this,fun k hk hF=>by
  rw [Below.heap_setCell _ _ _ _ (by rintro rfl;rcases ha with h|h;exact hF h;omega)];exact h.block k hk hF⟩
theorem Mod.row (h:Mod F w w'){g:Nat}(hg:F g∨w.heap.size≤g)(C:Array Value):Mod F w (w'.setRow g C) :=
 ⟨h.os,h.tape,h.output,by have:=h.size;simpa using this,fun k hk hF=>by
  rw [setRow_other w' g k C (by rintro rfl;rcases hg with h|h;exact hF h;omega)];exact h.block k hk hF⟩
theorem Mod.grown (h:Mod F w w'){w2:World}{row:Option Nat}(hg:w'.grownBy w2 row)(hr:∀ k,row=some k→F k∨w.heap.size≤k):Mod F w w2 :=
 ⟨hg.os.trans h.os,hg.tape.trans h.tape,hg.output.trans h.output,Nat.le_trans h.size hg.size,fun k hk hF =>
  (hg.block k (Nat.lt_of_lt_of_le hk h.size) (fun e=>by rcases hr k e.symm with h|h;exact hF h;omega)).trans (h.block k hk hF)⟩
theorem Blk.mod {b:Nat}{C:Array Value}{e:TypeId}(h:Blk w b C e)(hm:Mod F w w')(hF:¬ F b):Blk w' b C e:=(hm.block b h.lt hF).trans h
theorem VsAt.mod {a:Option Addr}{l:List Value}(h:VsAt w a l)(hm:Mod F w w')(hF:∀ b,(∃ o,a=some ⟨b,o,none⟩)→¬ F b):VsAt w' a l:=by
 rcases h with h|⟨b,off,rfl,hc⟩
 ·exact .inl h
 ·refine .inr ⟨b,off,rfl,fun i hi=>?_⟩;have h1:=hc i hi;rw [← h1];exact World.cell?_of_block (w:=w) (hm.block b (World.block_lt_of_cell? w _ h1) (hF b ⟨off,rfl⟩))
theorem SlAt.mod {n:Nat}{k:IntKind}{a:Option Addr}{l:List (BitVec n)}(h:SlAt k w a l)(hm:Mod F w w')(hF:∀ b,(∃ o,a=some ⟨b,o,none⟩)→¬ F b):SlAt k w' a l:=by
 rcases h with h|⟨b,off,rfl,hc⟩
 ·exact .inl h
 ·refine .inr ⟨b,off,rfl,fun i hi=>?_⟩;have h1:=hc i hi;rw [← h1];exact World.cell?_of_block (w:=w) (hm.block b (World.block_lt_of_cell? w _ h1) (hF b ⟨off,rfl⟩))
end
end
section
open Go Go.RowKit
theorem run_append_where {P:Program}{w:World}(base:Nat){t ty e:TypeId}{i:TypeInfo}{z:Value}{size bytes:Nat}(ht:P.underlying t=some (.slice e))(hi:P.info? e=some i)(hz:i.zero=some z)
  (hsize:i.size=size) (hby:i.bytes=bytes) (hzs:z.cells.size=size) (hsz:0<size)
  {ao:Option Addr} {n cap0:Nat} {xs:List Value} (hown:w.ownsRow base e size (.slice ao n cap0) n xs)
  (a:Addr) {m c:Nat} {news:List Value} (hl:news.length=m*size) (hnews:∀ j u,news[j]?=some u→w.cell? (a.add j)=some u) (h1:∀ u∈news,u.oneCell'=true)
  (hm:0<m) (hbytes:(n+m)*bytes≤140737488355328) (h63:n+m≤140737488355328) (hbase:base≤w.heap.size) :
  ∃ g cap' w',(appendB #[t,t] ty #[.slice ao n cap0,.slice (some a) m c]).run P w=.ok (.slice (some ⟨g,0,none⟩) (n+m) cap') w' ∧
   w'.ownsRow base e size (.slice (some ⟨g,0,none⟩) (n+m) cap') (n+m) (xs++news)∧w.grownBy w' (Value.ownBlock (.slice ao n cap0))∧(Value.ownBlock (.slice ao n cap0)=some g∨g=w.heap.size):=by
 unfold appendB;obtain ⟨v',w',hr,ho,hg,hv⟩:=run_append_own w base t ty e i z size bytes ht hi hz hsize hby hzs hsz _ _ _ hown a m c news hl hnews h1 (by unfold maxLen;omega) hbytes hbase;obtain ⟨g,cap',cur',rfl,hbg,hrest⟩:∃ g cap' cur',v'=.slice (some ⟨g,0,none⟩) (n+m) cap'∧base≤g∧w'.heap[g]?=some (.cells cur' e (0,0)):=by
  rcases ho.2 with ⟨h,h0⟩|⟨g,cap',cur,h,hb,hh,_⟩
  ·omega
  ·exact ⟨g,cap',cur,h,hb,hh⟩
 refine ⟨g,cap',w',hr,ho,hg,?_⟩
 rcases hown.2 with ⟨h,h0⟩|⟨g0,cap,cur,h,hb0,hg0,hnc,hcm,hcs,htake⟩
 ·simp only [Value.slice.injEq] at h;obtain ⟨rfl,_,rfl⟩:=h;subst h0;have h2:=run_append_nil (P:=P) w t ty e i z ht hi hz a m c news (by rw [hsize];exact hl) hnews hm (by omega) (by rw [hby];rw [Nat.zero_add] at hbytes;omega);rw [hr] at h2;simp only [Result.ok.injEq,Value.slice.injEq,Option.some.injEq,Addr.mk.injEq] at h2;exact .inr h2.1.1.1
 ·simp only [Value.slice.injEq] at h;obtain ⟨rfl,_,rfl⟩:=h;by_cases hroom:n+m≤cap0
  ·have hfit:n*i.size+news.length≤cur.size:=by rw [hl,hcs,hsize,← Nat.add_mul];exact Nat.mul_le_mul_right _ hroom
   have h2:=run_append_room (P:=P) w t ty e i ht hi g0 n cap0 cur hg0 a m c news (by rw [hsize];exact hl) hnews h1 hroom hfit;rw [hr] at h2;simp only [Result.ok.injEq,Value.slice.injEq,Option.some.injEq,Addr.mk.injEq] at h2;left;show some g0=some g;rw [h2.1.1.1]
  ·have holds:∀ j u,xs[j]?=some u→w.cell? ((⟨g0,0,none⟩:Addr).add j)=some u:=hown.cells (g:=g0) rfl;have h2:=run_append_grow (P:=P) w t ty e i z ht hi hz ⟨g0,0,none⟩ n cap0 xs (by rw [hsize];exact hown.1) holds a m c news (by rw [hsize];exact hl) hnews (by omega) (by omega) (growslice_fits (by omega) (by rw [hby];exact hbytes));rw [hr] at h2;simp only [Result.ok.injEq,Value.slice.injEq,Option.some.injEq,Addr.mk.injEq] at h2;exact .inr h2.1.1.1
end
section
open Go Go.RowKit
theorem mixed:Tryz.prog.follows .mixedOrders=true:=by kernel_rfl
def I64 (z:Int):Prop:=-9223372036854775808≤z∧z≤9223372036854775807
theorem ofInt_neg_uv {n:Nat}(x:BitVec n):BitVec.ofInt n (-uv x)=-x:=by rw [BitVec.ofInt_neg,ofInt_uv]
theorem BelowR {w:World}:Below w.heap.size w w:=Below.refl _ _
attribute [go_sem] ofInt_neg_uv
end
namespace WM
def ones (s:Nat):BitVec 64:=(1#64 <<< s)-1#64
theorem ones_bit (s i:Nat)(hs:s≤64)(hi:i<64):(ones s).getLsbD i=decide (i<s):=by
 have h1:ones s=BitVec.ofNat 64 (2 ^ s-1):=by
  apply BitVec.eq_of_toNat_eq;unfold ones;rw [BitVec.toNat_sub,BitVec.toNat_shiftLeft,BitVec.toNat_ofNat,BitVec.toNat_ofNat,Nat.shiftLeft_eq]
  rcases Nat.lt_or_ge s 64 with h|h
  ·have hp:2 ^ s<2 ^ 64:=Nat.pow_lt_pow_right (by decide) h;have h0:0<2 ^ s:=Nat.two_pow_pos s;simp only [Nat.reducePow] at hp ⊢;omega
  ·have:s=64:=by omega
   subst this;decide
 rw [h1,BitVec.getLsbD_ofNat,Nat.testBit_two_pow_sub_one];simp [hi]
def lowM (low:Int):Nat:=(min (max low 0) 64).toNat
def sizeM (low size:Int):Nat:=(min (max size 0) (64-lowM low)).toNat
def fieldM (n:BitVec 64)(low size:Int):BitVec 64:=(n >>> lowM low) &&& ones (sizeM low size)
def withM (n:BitVec 64)(low size:Int)(v:BitVec 64):BitVec 64:=(n &&& ~~~(ones (sizeM low size) <<< lowM low)) ||| ((v &&& ones (sizeM low size)) <<< lowM low)
theorem lowM_le (low:Int):lowM low≤64:=by unfold lowM;omega
theorem sizeM_le (low size:Int):lowM low+sizeM low size≤64:=by have:=lowM_le low;unfold sizeM;omega
theorem lowM_nat (l:Nat)(h:l≤64):lowM l=l:=by unfold lowM;omega
theorem sizeM_nat (l s:Nat)(h:l+s≤64):sizeM l s=s:=by
 have:lowM l=l:=lowM_nat l (by omega);unfold sizeM;rw [this];omega
theorem field_bit (n:BitVec 64)(low size:Int)(i:Nat):(fieldM n low size).getLsbD i=(decide (i<sizeM low size)&&n.getLsbD (lowM low+i)):=by
 have:=sizeM_le low size
 rcases Nat.lt_or_ge i 64 with hi|hi
 ·unfold fieldM;rw [BitVec.getLsbD_and,BitVec.getLsbD_ushiftRight,ones_bit _ _ (by omega) hi,Bool.and_comm]
 ·rw [BitVec.getLsbD_of_ge _ _ hi,decide_eq_false (by omega),Bool.false_and]
theorem with_bit (n:BitVec 64)(low size:Int)(v:BitVec 64)(i:Nat):(withM n low size v).getLsbD i=if lowM low≤i∧i<lowM low+sizeM low size then v.getLsbD (i-lowM low) else n.getLsbD i:=by
 have h64:=sizeM_le low size
 rcases Nat.lt_or_ge i 64 with hi|hi
 ·unfold withM;rw [BitVec.getLsbD_or,BitVec.getLsbD_and,BitVec.getLsbD_not,BitVec.getLsbD_shiftLeft,BitVec.getLsbD_shiftLeft,BitVec.getLsbD_and];by_cases h1:lowM low≤i
  ·rw [ones_bit _ _ (by omega) (by omega)];have e1:decide (i<lowM low)=false:=by simpa using h1
   have e2:decide (i<64)=true:=by simpa using hi
   rw [e1,e2];by_cases h2:i<lowM low+sizeM low size
   ·have e3:decide (i-lowM low<sizeM low size)=true:=by simp;omega
    rw [if_pos ⟨h1,h2⟩,e3];simp
   ·have e3:decide (i-lowM low<sizeM low size)=false:=by simp;omega
    rw [if_neg (fun h=>h2 h.2),e3];simp
  ·have e1:decide (i<lowM low)=true:=by simp;omega
   rw [if_neg (fun h=>h1 h.1),e1];simp [hi]
 ·rw [BitVec.getLsbD_of_ge _ _ hi,if_neg (by omega),BitVec.getLsbD_of_ge _ _ hi]
theorem ext {x y:BitVec 64}(h:∀ i,i<64→x.getLsbD i=y.getLsbD i):x=y:=BitVec.eq_of_getLsbD_eq fun i hi=>h i hi
def bitM (n:BitVec 64)(i:Int):Bool:=if i<0∨63<i then false else n.getLsbD i.toNat
theorem two_bit (k i:Nat)(hk:k<64):(BitVec.twoPow 64 k).getLsbD i=decide (k=i):=by
 rw [BitVec.getLsbD_twoPow];simp [hk]
theorem add_two (x:BitVec 64)(k:Nat)(hk:k<64)(h:x.getLsbD k=false)(i:Nat):(x+BitVec.twoPow 64 k).getLsbD i=(x.getLsbD i || decide (k=i)):=by
 rw [BitVec.add_eq_or_of_and_eq_zero _ _ (by
  apply ext;intro j hj;rw [BitVec.getLsbD_and,two_bit k j hk];by_cases e:k=j
  ·subst e;simp [h]
  ·simp [e]),BitVec.getLsbD_or,two_bit k i hk]
def refField (n:BitVec 64)(low:Nat):Nat→BitVec 64
 | 0=>0#64
 | k+1=>if bitM n (low+k:Nat) then refField n low k+BitVec.twoPow 64 k else refField n low k
def firstOff (n:BitVec 64):Nat→Nat→Int
 | _,0=>-1
 | k,m+1=>if n.getLsbD k then firstOff n (k+1) m else k
def lowOff (n:BitVec 64)(many:Int):Int:=firstOff n 0 (min (max many 0) 64).toNat
theorem firstOff_none (n:BitVec 64):∀ (m k:Nat),(∀ j,k≤j→j<k+m→n.getLsbD j=true)→firstOff n k m=-1
 | 0,_,_=>rfl
 | m+1,k,h=>by
  unfold firstOff;rw [if_pos (h k (Nat.le_refl _) (by omega))];exact firstOff_none n m (k+1) fun j h1 h2=>h j (by omega) (by omega)
theorem firstOff_some (n:BitVec 64):∀ (m k t:Nat),k≤t→t<k+m→(∀ j,k≤j→j<t→n.getLsbD j=true)→n.getLsbD t=false→firstOff n k m=t
 | 0,k,t,h1,h2,_,_=>by omega
 | m+1,k,t,h1,h2,h3,h4=>by
  unfold firstOff;by_cases e:k=t
  ·subst e;rw [if_neg (by simp [h4])]
  ·rw [if_pos (h3 k (Nat.le_refl _) (by omega))];exact firstOff_some n m (k+1) t (by omega) (by omega) (fun j h5 h6=>h3 j (by omega) h6) h4
theorem firstOff_cases (n:BitVec 64):∀ (m k:Nat),(firstOff n k m=-1∧∀ j,k≤j→j<k+m→n.getLsbD j=true)∨∃ t:Nat,firstOff n k m=t∧k≤t∧t<k+m∧n.getLsbD t=false∧∀ j,k≤j→j<t→n.getLsbD j=true
 | 0,k=>.inl ⟨rfl,fun j h1 h2=>by omega⟩
 | m+1,k=>by
  unfold firstOff;by_cases h:n.getLsbD k=true
  ·rw [if_pos h]
   rcases firstOff_cases n m (k+1) with ⟨h1,h2⟩|⟨t,h1,h2,h3,h4,h5⟩
   ·refine .inl ⟨h1,fun j h3 h4=>?_⟩;by_cases e:k=j
    ·subst e;exact h
    ·exact h2 j (by omega) (by omega)
   ·refine .inr ⟨t,h1,by omega,by omega,h4,fun j h6 h7=>?_⟩;by_cases e:k=j
    ·subst e;exact h
    ·exact h5 j (by omega) h7
  ·rw [if_neg h];exact .inr ⟨k,rfl,Nat.le_refl _,by omega,by simpa using h,fun j h1 h2=>by omega⟩
structure Zeros (x:BitVec 64) (t:Nat):Prop where
 le:t≤64
 low:∀ j,j<t→x.getLsbD j=false
 at_:t<64→x.getLsbD t=true
theorem lowOff_zeros (n:BitVec 64)(many:Int)(t:Nat)(h:Zeros (~~~n) t):(if (t:Int)<min many 64 then (t:Int) else -1)=lowOff n many:=by
 have hn:∀ j,j<64→(~~~n).getLsbD j=!n.getLsbD j:=fun j hj=>by rw [BitVec.getLsbD_not];simp [hj]
 unfold lowOff;split
 ·rename_i h1;refine (firstOff_some n _ 0 t (by omega) (by omega) (fun j _ hj=>?_) ?_).symm
  ·have:=h.low j hj;rw [hn j (by have:=h.le;omega)] at this;simpa using this
  ·have:=h.at_ (by omega);rw [hn t (by omega)] at this;simpa using this
 ·rename_i h1;refine (firstOff_none n _ 0 fun j _ hj=>?_).symm;have:=h.low j (by omega);rw [hn j (by omega)] at this;simpa using this
def tab:List (BitVec 8):=[0,1,56,2,57,49,28,3,61,58,42,50,38,29,17,4,62,47,59,36,45,43,51,22,53,39,33,30,24,18,12,5,63,55,48,27,60,41,37,16,46,35,44,21,52,32,23,11,54,26,40,15,34,20,31,10,25,14,19,9,13,8,7,6]
def tabAt (x:BitVec 64):Nat:=(tab.getD (((x &&& -x)*285870213051353865#64) >>> 58).toNat 0#8).toNat
theorem low_exists (x:BitVec 64)(hx:x≠0#64):∃ t,t<64∧x.getLsbD t=true∧∀ j,j<t→x.getLsbD j=false:=by
 have:∃ t,t<64∧x.getLsbD t=true:=by
  apply Classical.byContradiction;intro h;apply hx;apply ext;intro i hi;rw [BitVec.getLsbD_zero];cases hb:x.getLsbD i
  ·rfl
  ·exact absurd ⟨i,hi,hb⟩ h
 obtain ⟨t,ht,hb⟩:=this
 induction t using Nat.strongRecOn with
 | _ t ih =>
  by_cases h:∃ j,j<t∧x.getLsbD j=true
  ·obtain ⟨j,hj,hjb⟩:=h;exact ih j hj (by omega) hjb
  ·refine ⟨t,ht,hb,fun j hj=>?_⟩;cases hjb:x.getLsbD j
   ·rfl
   ·exact absurd ⟨j,hj,hjb⟩ h
theorem and_neg (x:BitVec 64)(t:Nat)(ht:t<64)(hb:x.getLsbD t=true)(hl:∀ j,j<t→x.getLsbD j=false):x &&& -x=BitVec.twoPow 64 t:=by
 apply ext;intro i hi;rw [BitVec.getLsbD_and,BitVec.getLsbD_neg,two_bit t i ht]
 rcases Nat.lt_trichotomy i t with h|h|h
 ·rw [hl i h];simp;omega
 ·subst h;have:¬ ∃ j,j<i∧x.getLsbD j=true:=by rintro ⟨j,hj,hjb⟩;rw [hl j hj] at hjb;cases hjb
  simp [hb,this]
 ·have h2:∃ j,j<i∧x.getLsbD j=true:=⟨t,h,hb⟩;have h3:¬ t=i:=by omega
  simp [h2,h3,hi]
theorem tab_all:∀ t,t<64→(tab.getD ((BitVec.twoPow 64 t*285870213051353865#64) >>> 58).toNat 0#8).toNat=t:=by decide +kernel
theorem tab_zeros (x:BitVec 64)(hx:x≠0#64):Zeros x (tabAt x):=by
 obtain ⟨t,ht,hb,hl⟩:=low_exists x hx;have:tabAt x=t:=by unfold tabAt;rw [and_neg x t ht hb hl];exact tab_all t ht
 rw [this];exact ⟨by omega,hl,fun _=>hb⟩
theorem zeros_zero:Zeros 0#64 64:=⟨Nat.le_refl _,fun j _=>by simp,fun h=>by omega⟩
def wd (f:Nat→BitVec 8):Nat→BitVec 64
 | 0=>0#64
 | k+1=>wd f k ||| (f k).setWidth 64 <<< (8*k)
theorem wd_bit (f:Nat→BitVec 8):∀ k,k≤8→∀ b,(wd f k).getLsbD b=(decide (b/8<k)&&(f (b/8)).getLsbD (b%8)):=by
 intro k
 induction k with
 | zero=>intro _ b;simp [wd]
 | succ k ih =>
  intro hk b;rw [wd,BitVec.getLsbD_or,ih (by omega),BitVec.getLsbD_shiftLeft,BitVec.getLsbD_setWidth];by_cases h1:b/8=k
  ·have e1:¬ b<8*k:=by omega
   have e2:b-8*k=b%8:=by omega
   have e3:b<64:=by omega
   have e4:b%8<64:=by omega
   have e5:¬ b/8<k:=by omega
   have e6:b/8<k+1:=by omega
   have e7:f (b/8)=f k:=by rw [h1]
   rw [e2,e7];simp [e1,e3,e4,e5,e6]
  ·rcases Nat.lt_or_ge b (8*k) with h2|h2
   ·have e1:b/8<k:=by omega
    have e2:b/8<k+1:=by omega
    simp [h2,e1,e2]
   ·have e1:¬ b/8<k:=by omega
    have e2:¬ b/8<k+1:=by omega
    have e3:(f k).getLsbD (b-8*k)=false:=BitVec.getLsbD_of_ge _ _ (by omega);simp [e1,e2,e3]
theorem wd_congr {f g:Nat→BitVec 8}(h:∀ i,i<8→f i=g i):wd f 8=wd g 8:=by
 apply ext;intro b hb;rw [wd_bit _ 8 (Nat.le_refl _),wd_bit _ 8 (Nat.le_refl _),h (b/8) (by omega)]
def byteOf (n:BitVec 64)(i:Nat):BitVec 8:=(n >>> (8*i)).setWidth 8
theorem byteOf_bit (n:BitVec 64)(i b:Nat):(byteOf n i).getLsbD b=(decide (b<8)&&n.getLsbD (8*i+b)):=by
 unfold byteOf;rw [BitVec.getLsbD_setWidth,BitVec.getLsbD_ushiftRight]
theorem wd_byteOf (n:BitVec 64):wd (byteOf n) 8=n:=by
 apply ext;intro b hb;rw [wd_bit _ 8 (Nat.le_refl _),byteOf_bit];have e1:b/8<8:=by omega
 have e2:b%8<8:=by omega
 have e3:8*(b/8)+b%8=b:=by omega
 simp [e1,e2,e3]
theorem byteOf_wd (f:Nat→BitVec 8)(i:Nat)(hi:i<8):byteOf (wd f 8) i=f i:=by
 apply BitVec.eq_of_getLsbD_eq;intro b hb;rw [byteOf_bit,wd_bit _ 8 (Nat.le_refl _)];have e1:(8*i+b)/8=i:=by omega
 have e2:(8*i+b)%8=b:=by omega
 rw [e1,e2];simp [hb,hi]
def hasB (n:Nat)(p:Int):Bool:=decide (0≤p∧p%8=0∧p≤(n:Int)-8)
theorem hasB_iff {n:Nat}{p:Int}:hasB n p=true↔∃ q:Nat,p=(8*q:Nat)∧8*q+8≤n:=by
 unfold hasB;rw [decide_eq_true_iff];constructor
 ·rintro ⟨h1,h2,h3⟩;exact ⟨(p/8).toNat,by omega,by omega⟩
 ·rintro ⟨q,rfl,h⟩;exact ⟨by omega,by omega,by omega⟩
def getM (l:List (BitVec 8))(p:Nat):BitVec 64:=wd (fun i=>l.getD (p+i) 0#8) 8
def putK (l:List (BitVec 8))(p:Nat)(n:BitVec 64):Nat→List (BitVec 8)
 | 0=>l
 | k+1=>(putK l p n k).set (p+k) (byteOf n k)
def putM (l:List (BitVec 8))(p:Nat)(n:BitVec 64):List (BitVec 8):=putK l p n 8
theorem putK_length (l:List (BitVec 8))(p:Nat)(n:BitVec 64)(k:Nat):(putK l p n k).length=l.length:=by
 induction k with
 | zero=>rfl
 | succ k ih=>simp [putK,ih]
theorem putM_length (l:List (BitVec 8))(p:Nat)(n:BitVec 64):(putM l p n).length=l.length:=putK_length l p n 8
theorem putK_getD (l:List (BitVec 8))(p:Nat)(n:BitVec 64)(k j:Nat)(hp:p+k≤l.length):(putK l p n k).getD j 0#8=if p≤j∧j<p+k then byteOf n (j-p) else l.getD j 0#8:=by
 induction k with
 | zero=>rw [if_neg (by omega)];rfl
 | succ k ih =>
  have ih:=ih (by omega);have hl:=putK_length l p n k;simp only [List.getD_eq_getElem?_getD] at ih ⊢;rw [putK,List.getElem?_set];by_cases h:p+k=j
  ·subst h;rw [if_pos rfl,if_pos (by omega),if_pos (by omega)];simp
  ·rw [if_neg h,ih];by_cases h2:p≤j∧j<p+k
   ·rw [if_pos h2,if_pos (by omega)]
   ·rw [if_neg h2,if_neg (by omega)]
theorem putM_getD (l:List (BitVec 8))(p:Nat)(n:BitVec 64)(j:Nat)(hp:p+8≤l.length):(putM l p n).getD j 0#8=if p≤j∧j<p+8 then byteOf n (j-p) else l.getD j 0#8:=putK_getD l p n 8 j hp
theorem get_put (l:List (BitVec 8))(q r:Nat)(n:BitVec 64)(hq:8*q+8≤l.length):getM (putM l (8*q) n) (8*r)=if q=r then n else getM l (8*r):=by
 unfold getM;by_cases h:q=r
 ·subst h;rw [if_pos rfl];refine Eq.trans (wd_congr fun i hi=>?_) (wd_byteOf n);rw [putM_getD _ _ _ _ hq,if_pos (by omega)];congr 1;omega
 ·rw [if_neg h];refine wd_congr fun i hi=>?_
  rw [putM_getD _ _ _ _ hq,if_neg (by omega)]
end WM
end Go.Proofs.YtaaihijkdhmcdaaGreatDoor
