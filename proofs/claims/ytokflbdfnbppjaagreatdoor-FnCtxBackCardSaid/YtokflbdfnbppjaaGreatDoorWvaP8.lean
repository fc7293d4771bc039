import Derived.Test.YtokflbdfnbppjaaGreatDoorWvaP7
import Derived.Ground.NamesProg
import Derived.Ground.SlsfProg
import Derived.Shelf.SlSortCmp.Whole1
import Derived.Shelf.Strings.OnBuilder
import Derived.Shelf.Strings.SlTrimAscii
import Derived.Shelf.SlGeneric
/- A part of the proof. -/
set_option linter.all false
namespace Go.Proofs.YtokflbdfnbppjaaGreatDoor
open Go Go.Vc Go.Proofs
section
variable {w:World} {K:Value->World->Prop} {F G:Nat->Prop}
def EnvM (w:World) (mb:Nat) (ds:List M.Dcl) (env:List Int):Prop:= ∃f,MapF .string w mb f/\∀s,0<=M.findD ds s->(Value.string s,Value.int .i64 (env.getD (M.findD ds s).toNat 0))∈f
theorem EnvM.ext {mb:Nat} {ds:List M.Dcl} {env:List Int} {w':World} (h:EnvM w mb ds env) (he:Ext w w'):EnvM w' mb ds env:=by
 obtain⟨f,a,b⟩:=h;exact⟨f,a.ext he,b⟩
def kTy (o:Int):TypeId:=if o<=2 then zY else if o<=13 then y3 else if o=14 then y8 else if o<=17 then zR else if o=20 then y2 else if o=21 then zV else if o=22 then zZ else if o=23 then y9 else zF
structure KindR (o:Int) (v:Value):Prop where
 word:∃(s:ByteArray) (m:Int) (r:List Value),v= .iface (kTy o) (.agg ⟨.string s:: .int .i64 m::r⟩)/\(o<24->r=[])/\(24<=o->∃f,r=[f]/\f.oneCell'=true)/\(o=20\/o=21\/o=24\/s.data.toList=M.wordL o)
 iface:∃ty x,v= .iface ty x
 kids:∀(w:World) (K:Value->World->Prop),(∀w',Ext w w'->K (.int .i64 (M.arity o)) w')->vinvoke P v mn_kids #[] w K
 sort:∀(w:World) (K:Value->World->Prop) (F G H:Nat->Prop) (dv tv kv:Value) (ds:List M.Dcl) (t:M.Tm) (xs:List Int),t.op=o->DclsR F w dv ds->TermR G w tv t->Ints H w kv xs->(xs.length:Int)=M.arity o->(∀i,-1<=xs.getD i 0/\xs.getD i 0<=4)->
  (∀w',Ext w w'->K (.int .i64 (M.sortK ds t xs)) w')->vinvoke P v XR #[dv,tv,kv] w K
 value:∀(w:World) (K:Value->World->Prop) (G H:Nat->Prop) (ev tv kv:Value) (ds:List M.Dcl) (env:List Int) (t:M.Tm) (xs:List (Int×Int)),t.op=o->(t.op=21->∃mb,ev= .map (some mb)/\EnvM w mb ds env)->TermR G w tv t->PairsR H w kv xs->(xs.length:Int)=M.arity o->(∀i,i<xs.length->M.inS (xs.getD i (0,0)).1 (xs.getD i (0,0)).2)->
  M.sortK ds t (xs.map (·.1))≠ -1->(∀w',Ext w w'->K (.int .i64 (M.valK ds env t xs)) w')->vinvoke P v ZW #[ev,tv,kv] w K
section
variable {ds:List M.Dcl} {env:List Int} {t:M.Tm} {xs:List Int} {ys:List (Int×Int)}
theorem Qs {i:Nat} (h:i<ys.length):(ys.map (·.1)).getD i 0=(ys.getD i (0,0)).1:=M.getD_map _ h _ _
theorem kind_un {o:Int} {s:ByteArray} (d:o=1\/o=2) (hw:s.data.toList=M.wordL o):KindR o (.iface zY (KV s 1)) where
 word:=⟨_,_,_,by(rw[show kTy o=zY by unfold kTy;rw[if_pos (by omega)]];try rfl),λ_=>rfl,λh=>by omega,.inr (.inr (.inr hw))⟩
 iface:=⟨_,_,rfl⟩
 kids:=λw K b=>yl (UL _ _) (ZY λw' he=>by have:=b w' he;rcases d with rfl|rfl<;>exact this)
 sort:=λw K F G H dv tv kv ds t xs f l e g c i b=>by
  have a:xs.length=1:=by rcases d with rfl|rfl<;>simp[M.arity] at c<;>omega
  refine yl (UK _ _) (unKind_sort_spec e g a λw' he=>?_);have:=b w' he;unfold M.sortK at this;rwa[if_neg (by omega),if_neg (by omega),if_neg (by omega),if_neg (by omega),if_neg (by omega),if_pos (by omega)] at this
 value:=λw K G H mb tv kv ds env t ys f he e g c i hs b=>by
  have a:ys.length=1:=by rcases d with rfl|rfl<;>simp[M.arity] at c<;>omega
  refine yl (Ww _ _) (unKind_value_spec e g a λw' he=>?_);have:=b w' he;unfold M.sortK at hs;rw[if_neg (by omega),if_neg (by omega),if_neg (by omega),if_neg (by omega),if_neg (by omega),if_pos (by omega),Qs (by omega)] at hs;have j:0<(ys.getD 0 (0,0)).1:=by
   by_cases h:0<(ys.getD 0 (0,0)).1
   ·exact h
   ·rw[if_neg h] at hs;exact absurd rfl hs
  have k:=M.inS_pos (i 0 (by omega)) j;unfold M.valK at this;rw[if_neg (by omega),if_neg (by omega),if_neg (by omega),if_neg (by omega),if_neg (by omega),if_neg (by omega),if_neg (by omega),if_neg (by omega),if_pos (by omega)] at this;unfold M.vecUn;rw[if_pos ⟨k,by omega⟩];exact this
theorem kind_bin {o:Int} {s:ByteArray} (m:3<=o) (k:o<=13) (hw:s.data.toList=M.wordL o):KindR o (.iface y3 (KV s 2)) where
 word:=⟨_,_,_,by(rw[show kTy o=y3 by unfold kTy;rw[if_neg (by omega),if_pos (by omega)]];try rfl),λ_=>rfl,λh=>by omega,.inr (.inr (.inr hw))⟩
 iface:=⟨_,_,rfl⟩
 kids:=λw K b=>yl (WJ _ _) (ZY λw' he=>by
  have:=b w' he;unfold M.arity at this;rwa[if_neg (by omega),if_neg (by omega),if_neg (by omega),if_neg (by omega),if_pos (by omega)] at this)
 sort:=λw K F G H dv tv kv ds t xs f n e i c d b=>by
  have a:xs.length=2:=by
   unfold M.arity at c;rw[if_neg (by omega),if_neg (by omega),if_neg (by omega),if_neg (by omega),if_pos (by omega)] at c;omega
  refine yl (WI _ _) (binKind_sort_spec e i a λw' he=>?_);have:=b w' he;unfold M.sortK at this;rwa[if_neg (by omega),if_neg (by omega),if_neg (by omega),if_neg (by omega),if_neg (by omega),if_neg (by omega),if_neg (by omega),if_neg (by omega)] at this
 value:=λw K G H mb tv kv ds env t ys f he e i c d hs b=>by
  have a:ys.length=2:=by
   unfold M.arity at c;rw[if_neg (by omega),if_neg (by omega),if_neg (by omega),if_neg (by omega),if_pos (by omega)] at c;omega
  refine yl (Vs _ _) (binKind_value_spec e i a λw' he=>?_);have:=b w' he;unfold M.sortK at hs;rw[if_neg (by omega),if_neg (by omega),if_neg (by omega),if_neg (by omega),if_neg (by omega),if_neg (by omega),if_neg (by omega),if_neg (by omega),Qs (by omega),Qs (by omega)] at hs;have j:0<(ys.getD 0 (0,0)).1/\(ys.getD 0 (0,0)).1=(ys.getD 1 (0,0)).1:=by
   by_cases h:0<(ys.getD 0 (0,0)).1/\(ys.getD 0 (0,0)).1=(ys.getD 1 (0,0)).1
   ·exact h
   ·rw[if_neg h] at hs;exact absurd rfl hs
  have l:=M.inS_pos (d 0 (by omega)) j.1;have g:=M.inS_pos (d 1 (by omega)) (by omega);unfold M.valK at this;rw[if_neg (by omega),if_neg (by omega),if_neg (by omega),if_neg (by omega),if_neg (by omega),if_neg (by omega),if_neg (by omega),if_neg (by omega),if_neg (by omega),if_neg (by omega),if_neg (by omega)] at this;unfold M.vecBin;rw[if_pos ⟨l,g⟩,if_neg (by omega),if_pos ⟨by omega,by omega,j.2⟩];exact this
theorem kind_cat {s:ByteArray} (hw:s.data.toList=M.wordL 14):KindR 14 (.iface y8 (KV s 2)) where
 word:=⟨_,_,_,rfl,λ_=>rfl,λh=>by omega,.inr (.inr (.inr hw))⟩
 iface:=⟨_,_,rfl⟩
 kids:=λw K b=>yl (WG _ _) (ZY λw' he=>b w' he)
 sort:=λw K F G H dv tv kv ds t xs c l g j e d b=>by
  have a:xs.length=2:=by simp[M.arity] at e;omega
  refine yl (WF _ _) (catKind_sort_spec g j a d λw' he=>?_);have:=b w' he;unfold M.sortK at this;rwa[if_neg (by omega),if_neg (by omega),if_neg (by omega),if_neg (by omega),if_neg (by omega),if_neg (by omega),if_pos (by omega)] at this
 value:=λw K G H mb tv kv ds env t ys c he g j e d hs b=>by
  have a:ys.length=2:=by simp[M.arity] at e;omega
  refine yl (Vo _ _) (catKind_value_spec g j a λw' he=>?_);have:=b w' he;unfold M.sortK at hs;rw[if_neg (by omega),if_neg (by omega),if_neg (by omega),if_neg (by omega),if_neg (by omega),if_neg (by omega),if_pos (by omega),Qs (by omega),Qs (by omega)] at hs;have f:0<(ys.getD 0 (0,0)).1/\0<(ys.getD 1 (0,0)).1/\(ys.getD 0 (0,0)).1+(ys.getD 1 (0,0)).1<=4:=by
   by_cases h:0<(ys.getD 0 (0,0)).1/\0<(ys.getD 1 (0,0)).1/\(ys.getD 0 (0,0)).1+(ys.getD 1 (0,0)).1<=4
   ·exact h
   ·rw[if_neg h] at hs;exact absurd rfl hs
  have k:=M.inS_pos (d 0 (by omega)) f.1;have i:=M.inS_pos (d 1 (by omega)) f.2.1;unfold M.valK at this;rw[if_neg (by omega),if_neg (by omega),if_neg (by omega),if_neg (by omega),if_neg (by omega),if_neg (by omega),if_neg (by omega),if_neg (by omega),if_neg (by omega),if_pos (by omega)] at this;unfold M.vecBin;rw[if_pos ⟨k,i⟩,if_pos c,if_pos f.2.2];exact this
theorem kind_cmp {o:Int} {s:ByteArray} (m:15<=o) (k:o<=17) (hw:s.data.toList=M.wordL o):KindR o (.iface zR (KV s 2)) where
 word:=⟨_,_,_,by(rw[show kTy o=zR by unfold kTy;rw[if_neg (by omega),if_neg (by omega),if_neg (by omega),if_pos (by omega)]];try rfl),λ_=>rfl,λh=>by omega,.inr (.inr (.inr hw))⟩
 iface:=⟨_,_,rfl⟩
 kids:=λw K b=>yl (WD _ _) (ZY λw' he=>by
  have:=b w' he;unfold M.arity at this;rwa[if_neg (by omega),if_neg (by omega),if_neg (by omega),if_neg (by omega),if_pos (by omega)] at this)
 sort:=λw K F G H dv tv kv ds t xs f n e i c d b=>by
  have a:xs.length=2:=by
   unfold M.arity at c;rw[if_neg (by omega),if_neg (by omega),if_neg (by omega),if_neg (by omega),if_pos (by omega)] at c;omega
  refine yl (WC _ _) (cmpKind_sort_spec e i a λw' he=>?_);have:=b w' he;unfold M.sortK at this;rwa[if_neg (by omega),if_neg (by omega),if_neg (by omega),if_neg (by omega),if_neg (by omega),if_neg (by omega),if_neg (by omega),if_pos (by omega)] at this
 value:=λw K G H mb tv kv ds env t ys f he e i c d hs b=>by
  have a:ys.length=2:=by
   unfold M.arity at c;rw[if_neg (by omega),if_neg (by omega),if_neg (by omega),if_neg (by omega),if_pos (by omega)] at c;omega
  refine yl (Vn _ _) (cmpKind_value_spec e i a λw' he=>?_);have:=b w' he;unfold M.sortK at hs;rw[if_neg (by omega),if_neg (by omega),if_neg (by omega),if_neg (by omega),if_neg (by omega),if_neg (by omega),if_neg (by omega),if_pos (by omega),Qs (by omega),Qs (by omega)] at hs;have j:0<(ys.getD 0 (0,0)).1/\(ys.getD 0 (0,0)).1=(ys.getD 1 (0,0)).1:=by
   by_cases h:0<(ys.getD 0 (0,0)).1/\(ys.getD 0 (0,0)).1=(ys.getD 1 (0,0)).1
   ·exact h
   ·rw[if_neg h] at hs;exact absurd rfl hs
  have l:=M.inS_pos (d 0 (by omega)) j.1;have g:=M.inS_pos (d 1 (by omega)) (by omega);unfold M.valK at this;rw[if_neg (by omega),if_neg (by omega),if_neg (by omega),if_neg (by omega),if_neg (by omega),if_neg (by omega),if_neg (by omega),if_neg (by omega),if_neg (by omega),if_neg (by omega),if_pos (by omega)] at this;unfold M.vecCmp;rw[if_pos ⟨l,g,j.2,by omega,by omega⟩];exact this
theorem kind_vec {s:ByteArray}:KindR 20 (.iface y2 (KV s 0)) where
 word:=⟨_,_,_,rfl,λ_=>rfl,λh=>by omega,.inl rfl⟩
 iface:=⟨_,_,rfl⟩
 kids:=λw K b=>yl (Wv _ _) (ZY λw' he=>b w' he)
 sort:=λw K F G H dv tv kv ds t xs a g c f d e b=>by
  refine yl (Wu _ _) (yI0 c λw' he=>?_);have:=b w' he;unfold M.sortK at this;rwa[if_pos a] at this
 value:=λw K G H mb tv kv ds env t ys a he c f d e hs b=>by
  refine yl (Vj _ _) (zp0 c λw' he=>?_);have:=b w' he;unfold M.valK at this;rwa[if_pos a] at this
theorem kind_name {s:ByteArray}:KindR 21 (.iface zV (KV s 0)) where
 word:=⟨_,_,_,rfl,λ_=>rfl,λh=>by omega,.inr (.inl rfl)⟩
 iface:=⟨_,_,rfl⟩
 kids:=λw K b=>yl (Vl _ _) (ZY λw' he=>b w' he)
 sort:=λw K F G H dv tv kv ds t xs a g e k i j b=>by
  refine yl (Vk _ _) (nameKind_sort_spec e g λw' he=>?_);have:=b w' he;unfold M.sortK at this;rwa[if_neg (by omega),if_pos a] at this
 value:=λw K G H mb tv kv ds env t ys a he e k i j hs b=>by
  obtain⟨mb,rfl,f,hm,d⟩:=he a;unfold M.sortK at hs;rw[if_neg (by omega),if_pos a] at hs;have c:0<=M.findD ds t.s:=by
   by_cases h:M.findD ds t.s<0
   ·rw[if_pos h] at hs;exact absurd rfl hs
   ·omega
  refine yl (KQ _ _) (UI e hm (d _ c) λw' he=>?_);have:=b w' he;unfold M.valK at this;rwa[if_neg (by omega),if_pos a] at this
theorem kind_cut {s:ByteArray} (hw:s.data.toList=M.wordL 22):KindR 22 (.iface zZ (KV s 1)) where
 word:=⟨_,_,_,rfl,λ_=>rfl,λh=>by omega,.inr (.inr (.inr hw))⟩
 iface:=⟨_,_,rfl⟩
 kids:=λw K d=>yl (WA _ _) (ZY λw' he=>d w' he)
 sort:=λw K F G H dv tv kv ds t xs i m g j e f d=>by
  have c:xs.length=1:=by simp[M.arity] at e;omega
  refine yl (Wz _ _) (cutKind_sort_spec g j c f λw' he=>?_);have:=d w' he;unfold M.sortK at this;rwa[if_neg (by omega),if_neg (by omega),if_neg (by omega),if_neg (by omega),if_pos (by omega)] at this
 value:=λw K G H mb tv kv ds env t ys i he g j e f hs d=>by
  have c:ys.length=1:=by simp[M.arity] at e;omega
  refine yl (Vm _ _) (cutKind_value_spec g j c λw' he=>?_);have:=d w' he;unfold M.sortK at hs;rw[if_neg (by omega),if_neg (by omega),if_neg (by omega),if_neg (by omega),if_pos (by omega),Qs (by omega)] at hs;have k:0<=t.b/\t.b<=t.a/\t.a<(ys.getD 0 (0,0)).1:=by
   by_cases h:0<=t.b/\t.b<=t.a/\t.a<(ys.getD 0 (0,0)).1
   ·exact h
   ·rw[if_neg h] at hs;exact absurd rfl hs
  have l:=M.inS_pos (f 0 (by omega)) (by omega);unfold M.valK at this;rw[if_neg (by omega),if_neg (by omega),if_neg (by omega),if_neg (by omega),if_neg (by omega),if_neg (by omega),if_neg (by omega),if_pos (by omega)] at this;unfold M.vecCut;rw[if_pos ⟨l,k⟩];exact this
theorem kind_if {s:ByteArray} (hw:s.data.toList=M.wordL 23):KindR 23 (.iface y9 (KV s 3)) where
 word:=⟨_,_,_,rfl,λ_=>rfl,λh=>by omega,.inr (.inr (.inr hw))⟩
 iface:=⟨_,_,rfl⟩
 kids:=λw K b=>yl (UO _ _) (ZY λw' he=>b w' he)
 sort:=λw K F G H dv tv kv ds t xs e i d f c g b=>by
  have a:xs.length=3:=by simp[M.arity] at c;omega
  refine yl (UN _ _) (ifKind_sort_spec d f a λw' he=>?_);have:=b w' he;unfold M.sortK at this;rwa[if_neg (by omega),if_neg (by omega),if_neg (by omega),if_pos (by omega)] at this
 value:=λw K G H mb tv kv ds env t ys e he d f c g hs b=>by
  have a:ys.length=3:=by simp[M.arity] at c;omega
  refine yl (Wx _ _) (ifKind_value_spec d f a λw' he=>?_);have:=b w' he;unfold M.valK at this;rwa[if_neg (by omega),if_neg (by omega),if_neg (by omega),if_neg (by omega),if_neg (by omega),if_neg (by omega),if_pos (by omega)] at this
theorem kind_bool {o:Int} {s:ByteArray} {f:Value} {g:List (Int×Int)->Bool} {m:Nat} (q:24<=o) (i:M.arity o=m) (j:kU0 f g m) (c:f.oneCell'=true) (hw:o=24\/s.data.toList=M.wordL o) (k:∀ds env (t:M.Tm) ys,t.op=o->M.valK ds env t ys=M.b2i (g ys)):
  KindR o (.iface zF (.agg ⟨[.string s,.int .i64 m,f]⟩)) where
 word:=⟨_,_,_,by rw[show kTy o=zF by unfold kTy;rw[if_neg (by omega),if_neg (by omega),if_neg (by omega),if_neg (by omega),if_neg (by omega),if_neg (by omega),if_neg (by omega),if_neg (by omega)]],λh=>by omega,λ_=>⟨_,rfl,c⟩,.inr (.inr hw)⟩
 iface:=⟨_,_,rfl⟩
 kids:=λw K a=>yl (Vr _ _ _) (ZY λw' he=>by have:=a w' he;rwa[i] at this)
 sort:=λw K F G H dv tv kv ds t xs b p d e l n a=>by
  refine yl (Vq _ _ _) (y50 d e λw' he=>?_);have:=a w' he;unfold M.sortK at this;rwa[if_neg (by omega),if_neg (by omega),if_pos (by omega)] at this
 value:=λw K G H mb tv kv ds env t ys b he d e l n hs a=>by
  refine yl (KR _ _ _) (zi0 j d e (by omega) λw' he=>?_);have:=a w' he;rwa[k ds env t ys b] at this
end
def KindsR (w:World) (mb:Nat):Prop:= ∃f,MapF (.int .i64) w mb f/\(∀o,0<=M.arity o->∃v,(Value.int .i64 o,v)∈f/\KindR o v)/\∀p,p∈f->∃o,p.1= .int .i64 o/\0<=M.arity o
theorem KindsR.ext {mb:Nat} {w':World} (h:KindsR w mb) (he:Ext w w'):KindsR w' mb:=by
 obtain⟨f,a,b⟩:=h;exact⟨f,a.ext he,b⟩
end
section
variable {w:World} {K:Value->World->Prop} {F G:Nat->Prop}
theorem XD:Ve0 P zw (.int .i64) jf:=⟨_,Kj,by kernel_rfl⟩
def KS (w0 w:World) (b:Nat) (S:Int->Prop):Prop:=Ext w0 w/\w0.heap.size<=b/\∃f,MapF (.int .i64) w b f/\(∀o,S o->∃v,(Value.int .i64 o,v)∈f/\KindR o v)/\∀p,p∈f->∃o,p.1= .int .i64 o/\S o
theorem KS.set {w0 w:World} {b:Nat} {S:Int->Prop} {o:Int} {v:Value} (h:KS w0 w b S) (q: ¬S o) (r:KindR o v) (m:∀w',KS w0 w' b (λx=>x=o\/S x)->Same (· =b) w w'->K undef w'):
  Ya P zw (.map (some b)) (.int .i64 o) v w K:=by
 obtain⟨he,k,f,hm,l,j⟩:=h;refine J20 XD hm (j8 o) (λx i=>?_) λw' g hs _=>m w' ⟨Ext.then he hs λy s=>by subst s;exact k,k,_,g,λx i=>?_,λp c=>?_⟩ hs
 ·obtain⟨o',a,d⟩:=j _ i;cases a;exact q d
 ·by_cases e:x=o
  ·subst e;exact⟨v,gk.2 (.inr (gn.2 rfl)),r⟩
  ·obtain⟨u,hu,n⟩:=l x (i.resolve_left e);exact⟨u,gk.2 (.inl hu),n⟩
 ·rcases gk.1 c with c|c
  ·obtain⟨o',a,d⟩:=j _ c;exact⟨o',a,.inr d⟩
  ·rw[gn.1 c];exact⟨o,rfl,.inl rfl⟩
theorem KS.ext {w0 w w':World} {b:Nat} {S:Int->Prop} (h:KS w0 w b S) (he:Ext w w'):KS w0 w' b S:=by
 obtain⟨a,c,f,hm,r⟩:=h;exact⟨a.trans he,c,f,hm.ext he,r⟩
theorem KS.congr {w0 w:World} {b:Nat} {S S':Int->Prop} (h:KS w0 w b S) (a:∀x,S x↔S' x):KS w0 w b S':=by
 have:S=S':=funext λx=>propext (a x);subst this;exact h
theorem KS.kinds {w0 w:World} {b:Nat} {S:Int->Prop} (h:KS w0 w b S) (a:∀o,S o↔0<=M.arity o):KindsR w b:=by
 obtain⟨he,k,f,hm,c,d⟩:=h;refine⟨f,hm,λo i=>c o ((a o).2 i),λp j=>?_⟩;obtain⟨o,e,g⟩:=d p j;exact⟨o,e,(a o).1 g⟩
@[push_cast] theorem bd_named (s:ByteArray) (n:Int):zE P yx [(0,.string s),(1,.int .i64 n)] w K=K (KV s n) w:=yo X40 (us:=[[.string s],[.int .i64 n]]) rfl rfl
@[push_cast] theorem UB0 (s:ByteArray) (n:Int):zE P zY [(0,KV s n)] w K=K (KV s n) w:=yo Yc0 (us:=[[.string s,.int .i64 n]]) rfl rfl
@[push_cast] theorem U30 (s:ByteArray) (n:Int):zE P y3 [(0,KV s n)] w K=K (KV s n) w:=yo kz0 (us:=[[.string s,.int .i64 n]]) rfl rfl
@[push_cast] theorem U20 (s:ByteArray) (n:Int):zE P y8 [(0,KV s n)] w K=K (KV s n) w:=yo kw0 (us:=[[.string s,.int .i64 n]]) rfl rfl
@[push_cast] theorem U10 (s:ByteArray) (n:Int):zE P zR [(0,KV s n)] w K=K (KV s n) w:=yo kt0 (us:=[[.string s,.int .i64 n]]) rfl rfl
@[push_cast] theorem U00 (s:ByteArray) (n:Int):zE P zZ [(0,KV s n)] w K=K (KV s n) w:=yo ks0 (us:=[[.string s,.int .i64 n]]) rfl rfl
@[push_cast] theorem UD0 (s:ByteArray) (n:Int):zE P y9 [(0,KV s n)] w K=K (KV s n) w:=yo Ye0 (us:=[[.string s,.int .i64 n]]) rfl rfl
@[push_cast] theorem WZ0:zE P y2 [] w K=K (KV ⟨#[]⟩ 0) w:=yo kr0 (us:=[]) rfl rfl
@[push_cast] theorem WL0:zE P zV [] w K=K (KV ⟨#[]⟩ 0) w:=yo jx0 (us:=[]) rfl rfl
@[push_cast] theorem WO0 (s:ByteArray) (n:Int) (f:Fn) (a c:Array Value):zE P zF [(0,KV s n),(1,.func f a c)] w K=K (.agg ⟨[.string s,.int .i64 n,.func f a c]⟩) w:=yo jy0 (us:=[[.string s,.int .i64 n],[.func f a c]]) rfl rfl
theorem val24 (ds:List M.Dcl) (env:List Int) (t:M.Tm) (ys:List (Int×Int)) (h:t.op=24):M.valK ds env t ys=M.b2i true:=by simp[M.valK,h,M.b2i]
theorem val25 (ds:List M.Dcl) (env:List Int) (t:M.Tm) (ys:List (Int×Int)) (h:t.op=25):M.valK ds env t ys=M.b2i (decide ((ys.getD 0 (0,0)).2=0)):=by unfold M.valK;simp only[h];rfl
theorem val26 (ds:List M.Dcl) (env:List Int) (t:M.Tm) (ys:List (Int×Int)) (h:t.op=26):M.valK ds env t ys=M.b2i (decide ((ys.getD 0 (0,0)).2=1)&&decide ((ys.getD 1 (0,0)).2=1)):=by unfold M.valK;simp only[h];rfl
theorem val27 (ds:List M.Dcl) (env:List Int) (t:M.Tm) (ys:List (Int×Int)) (h:t.op=27):M.valK ds env t ys=M.b2i (decide ((ys.getD 0 (0,0)).2=1)||decide ((ys.getD 1 (0,0)).2=1)):=by unfold M.valK;simp only[h];rfl
def binWords:List ByteArray:=[⟨#[97,110,100]⟩,⟨#[111,114]⟩,⟨#[120,111,114]⟩,⟨#[97,100,100]⟩,⟨#[115,117,98]⟩,⟨#[109,117,108]⟩,⟨#[100,105,118]⟩,⟨#[114,101,109]⟩,⟨#[115,104,108]⟩,⟨#[115,104,114]⟩,⟨#[115,97,114]⟩]
theorem VQ0:∀i:Fin 11,(binWords.getD i.1 ⟨#[]⟩).data.toList=M.wordL (3+(i.1:Int)):=by decide
theorem kinds_new (X:∀w' b,Ext w w'->KindsR w' b->w.heap.size<=b->K (.map (some b)) w'):vcall P Zw #[] w K:=by
 apply YT0;refine XE0 XD λb w1 hb hm he hs=>?_;have J:KS w w1 b (λ_=>False):=⟨he,by omega,[],hm,λ_ h=>h.elim,λ_ h=>by cases h⟩;simp only[push_cast];refine J.set (by decide) (kind_un (.inl rfl) (by decide)) λw2 L _=>?_;refine L.set (by decide) (kind_un (.inr rfl) (by decide)) λw3 N _=>?_;refine N.set (by decide) (kind_cat (by decide)) λw4 O _=>?_;refine O.set (by decide) (kind_cmp (by decide) (by decide) (by decide)) λw5 Q _=>?_;refine Q.set (by decide) (kind_cmp (by decide) (by decide) (by decide)) λw6 R _=>?_;refine R.set (by decide) (kind_cmp (by decide) (by decide) (by decide)) λw7 S _=>?_;refine S.set (by decide) kind_vec λw8 T _=>?_;refine T.set (by decide) kind_name λw9 U _=>?_;refine U.set (by decide) (kind_cut (by decide)) λY V _=>?_;refine V.set (by decide) (kind_if (by decide)) λZ l _=>?_;refine l.set (by decide) (kind_bool (m:=0) (by decide) rfl JJ0 rfl (.inl rfl) val24) λa0 n _=>?_;refine n.set (by decide) (kind_bool (m:=1) (by decide) rfl kinds2_fn rfl (.inr (by decide)) val25) λa1 p _=>?_;refine p.set (by decide) (kind_bool (m:=2) (by decide) rfl kinds3_fn rfl (.inr (by decide)) val26) λa2 q _=>?_;refine q.set (by decide) (kind_bool (m:=2) (by decide) rfl kinds4_fn rfl (.inr (by decide)) val27) λa3 g _=>?_;refine vbuildS_row1 (xs:=binWords.map .string) V7 (by kernel_rfl) KY (λx B=>by obtain⟨s,_,rfl⟩:=gm.1 B;rfl) (by decide) λbs D F j G t=>?_;have d:Vals (· =bs) D (.slice (some ⟨bs,0,none⟩) (binWords.map Value.string).length (binWords.map Value.string).length) (binWords.map Value.string):=t.sl1 rfl (by decide);have r:=g.ext j;have v:bs≠b:=by
  obtain⟨_,_,f,hm,_⟩:=g;have:=hm.lt;omega
 have hlen:(binWords.map Value.string).length=11:=rfl;simp(disch:=(simp only[push_cast])) only[push_cast,d.len];rw[hlen];rw[hlen] at d;refine vloop_up 11 (λi u w'=>u=[.int .i64 i]/\Vals (· =bs) w' (.slice (some ⟨bs,0,none⟩) 11 11) (binWords.map Value.string)/\KS w w' b λx=>(3<=x/\x<3+(i:Int))\/x=27\/x=26\/x=25\/x=24\/x=23\/x=22\/x=21\/x=20\/x=17\/x=16\/x=15\/x=14\/x=2\/x=1) ⟨rfl,d,r.congr λx=>by simp only[or_false];constructor<;>intro h<;>omega⟩ ?_;rintro i _ _ E C hi ⟨rfl,A,k⟩ W;simp only[push_cast];refine zh (λa=>?_) (λa=>?_)
 ·have c:i<11:=(by omega);have H:(binWords.map Value.string).getD i undef= .string (binWords.getD i ⟨#[]⟩):=M.getD_map _ (show i<binWords.length from c) _ _;have I:IntKind.i64.wrap (3+(i:Int))=3+(i:Int):=zJ (by omega) (by omega);rw[A.iaddr (by kernel_rfl) (by omega) (by rw[hlen];omega),gl,A.load (by kernel_rfl) (by rw[hlen];omega),H];simp only[push_cast,I];refine k.set (by omega) (kind_bin (by omega) (by omega) (VQ0 ⟨i,c⟩)) λa4 y z=>?_
  try simp only[push_cast]
  rw[inc64' (by omega)];exact W c _ _ ⟨rfl,A.same z λx B _ e=>v (B.symm.trans e),y.congr λx=>by constructor<;>intro h<;>omega⟩
 ·have:i=11:=(by omega);subst this;refine X E b k.1 (k.kinds λo=>?_) k.2.1;constructor
  ·intro h;have:(1<=o/\o<=17)\/(20<=o/\o<=27):=(by omega);unfold M.arity
   repeat' split
   all_goals omega
  ·intro h;have:=M.arity_ops h;omega
theorem kK0 (d:∀w' b,Ext w w'->KindsR w' b->K (.map (some b)) w'):vcall P Zw #[] w K:=kinds_new λw' b a c _=>d w' b a c
end
section
variable {w:World} {K:Value->World->Prop} {F G:Nat->Prop}
theorem stTerm {b:Nat} {cs cs':List Value} {t:TypeId} {t':M.Tm} (h:Blk w b cs t) (f:cs.length=5) (d:TmR F w cs' t') (c:∀w',Same (· =b) w w'->w'.heap.size=w.heap.size->Blk w' b cs' t->K undef w'):zn P za (.pointer (some ⟨b,0,none⟩)) (.agg ⟨cs'⟩) w K:=by
 obtain⟨kv,rfl,e⟩:=d.inv;obtain⟨css,hs,_⟩:=e;refine h.stAgg (by simp[f]) zp ?_ c;intro v a;simp only[gd,gw,or_false] at a;rcases a with rfl|rfl|rfl|rfl|rfl
 ·rfl
 ·rfl
 ·rfl
 ·rfl
 ·exact hs.one
theorem yq {cs:List Value} {t:M.Tm} (h:TmR F w cs t):cs.length=5:=by
 obtain⟨kv,rfl,_⟩:=h.inv;rfl
theorem Qi0 {v:Value} {t:M.Tm} (m:TermR F w v t) (i:∀w',Ext w w'->K (.bool (M.plainM t)) w'):vcall P Vg #[v] w K:=by
 apply YS0;obtain⟨ksv,rfl,k⟩:=m;refine zx λb1 w1 j h l e=>?_;have d:=i _ h;unfold M.plainM at d;refine zS (λu w'=>u=[.bool (decide (t.op=20)||decide (t.op=22)||(decide (t.a=0)&&decide (t.b=0)))]/\w'=w1) (λC f=>?_) ?_
 ·simp(disch:=(simp only[push_cast])) only[push_cast,e.ld0,e.ld1,e.ld2];refine zh (λa=>?_) (λa=>?_)
  ·exact f _ _ ⟨by rw[decide_eq_true a];rfl,rfl⟩
  refine zh (λb=>?_) (λb=>?_)
  ·exact f _ _ ⟨by rw[decide_eq_true b];simp,rfl⟩
  refine zh (λc=>?_) (λc=>?_)
  ·exact f _ _ ⟨by rw[decide_eq_false a,decide_eq_false b,decide_eq_true c];rfl,rfl⟩
  ·exact f _ _ ⟨by rw[decide_eq_false a,decide_eq_false b,decide_eq_false c];rfl,rfl⟩
 ·rintro u g w2 ⟨rfl,rfl⟩;simp(disch:=(simp only[push_cast])) only[push_cast,e.ld0,e.ld3];refine zK (λa=>?_) (λa=>?_)
  ·rw[a,pH] at d;refine zh (λb=>?_) (λb=>?_)
   ·rwa[decide_eq_true b,Bool.true_or] at d
   ·rw[decide_eq_false b,z0b] at d;exact d
  ·rwa[a,GP] at d
theorem qD0 {mb:Nat} {o:Int} {ok:Bool} (h:KindsR w mb) (d:0<=M.arity o) (b:∀v,KindR o v->K (if ok then .tuple #[v,.bool true] else v) w):Jd P zw (.map (some mb)) (.int .i64 o) ok w K:=by
 obtain⟨f,hm,a,g⟩:=h;obtain⟨v,e,c⟩:=a o d;rw[zn0 XD hm (j8 o) e];exact b v c
theorem JF0 {mb:Nat} {o:Int} (h:KindsR w mb) (d: ¬0<=M.arity o) (b:K (.tuple #[.nilIface,.bool false]) w):Jd P zw (.map (some mb)) (.int .i64 o) true w K:=by
 obtain⟨f,hm,i,a⟩:=h;rw[Yj0 XD (z:= .nilIface) (by unfold xg;kernel_rfl) hm (j8 o) λv g=>?_]
 ·exact b
 ·obtain⟨o',e,c⟩:=a _ g;cases e;exact d c
theorem Qm0 {mb:Nat} {o:Int} {w w2:World} {N:Value->World->Prop} (h:KindsR w mb) (i:0<=M.arity o) (he:Ext w w2) (e:∀v,KindR o v->(∀a,Ext w a->Jd P zw (.map (some mb)) (.int .i64 o) false a λx y=>x=v/\y=a)->N v w):Jd P zw (.map (some mb)) (.int .i64 o) false w N:=by
 obtain⟨f,hm,d,j⟩:=h;obtain⟨v,c,g⟩:=d o i;rw[zn0 XD hm (j8 o) c];refine e v g λa b=>?_;rw[zn0 XD (hm.ext b) (j8 o) c];exact⟨rfl,rfl⟩
theorem JW {α β:Type} (f:α->β) {l:List α} {i:Nat} (h:i<l.length) (d:α):(l.take i).map f++[f (l.getD i d)]=(l.take (i+1)).map f:=by
 rw[G7,K3 h,gx,k6,K3 h];rfl
theorem sortOf_spec:∀(t:M.Tm) {w:World} {K:Value->World->Prop} {F G:Nat->Prop} {mb:Nat} {dv v:Value} {ds:List M.Dcl},KindsR w mb->DclsR F w dv ds->M.declOk ds=true->TermR G w v t->
  (∀w',Ext w w'->K (.int .i64 (M.sortM ds t)) w')->vcall P kD #[.map (some mb),dv,v] w K:=by
 refine M.Tm.ind λt ih w K F G mb dv v ds hm hd N ht U=>?_;apply Y20;obtain⟨ksv,rfl,m⟩:=ht;refine zx λb1 w1 a3 l a6 D=>?_;have J:=hm.ext l;simp(disch:=(simp only[push_cast])) only[push_cast,D.ld0];have A: ¬(M.formed t=true)->∀w',Ext w w'->K (.int .i64 (-1)) w':=λhn w' he=>by
  have:=U w' he;rw[M.sortM_eq] at this;unfold M.sortF at this;rwa[if_neg (λh=>hn h.1)] at this
 by_cases Y: ¬0<=M.arity t.op
 ·have T:=Y;refine JF0 J T ?_;simp only[push_cast];refine zS (λ_ _=>False) (λC S=>?_) (λ_ _ _ h=>h.elim);refine zr λw2 c _=>?_;simp only[push_cast,true_and];refine A (λh=>T ?_) _ (l.trans c);simp only[M.formed,V0,decide_eq_true_eq] at h;omega
 have T:0<=M.arity t.op:=by omega
 refine qD0 J T λkv I=>?_;simp only[push_cast,if_true];have a9:=m.small;refine zS (λu w'=>u=[]/\Ext w1 w'/\M.formed t=true) (λC S=>?_) ?_
 ·refine zr λw2 c _=>?_;have E:=D.ext c;simp(disch:=(simp only[push_cast])) only[push_cast,E.ld4,m.len,true_and];refine I.kids _ _ λw3 d=>?_;have R:=E.ext d;simp(disch:=(simp only[push_cast])) only[push_cast,R.ld4,m.len,true_and,and_self];refine zh (λa=>?_) (λa=>?_)
  ·refine A (λh=>?_) _ ((l.trans c).trans d);simp only[M.formed,V0,decide_eq_true_eq] at h;omega
  ·simp(disch:=(simp only[push_cast])) only[push_cast,R.ldAgg (t:=za) zp,true_and];refine Qi0 (F:=G) (t:=t) ⟨ksv,rfl,m.ext ((l.trans c).trans d)⟩ λw4 e=>?_;simp only[push_cast,true_and];refine zK (λb=>?_) (λb=>?_)
   ·refine A (λh=>?_) _ (((l.trans c).trans d).trans e);simp only[M.formed,V0] at h;rw[h.2] at b;cases b
   ·refine S _ _ ⟨rfl,(c.trans d).trans e,?_⟩;simp only[M.formed,V0,decide_eq_true_eq];exact⟨by omega,by simpa using b⟩
 ·rintro u g w2 ⟨rfl,c,hf⟩;have E:=D.ext c;have hE:=l.trans c;have ab:=hE.size;simp(disch:=(simp only[push_cast])) only[push_cast,E.ld4,m.len];have H:=hf;simp only[M.formed,V0,decide_eq_true_eq] at H;have a2:t.ks.length<=3:=by
   have D:=H.1;unfold M.arity at D
   repeat' split at D
   all_goals omega
  refine vloop_up t.ks.length (λi u w'=> ∃sv,u=[sv,.int .i64 i]/\Ext w2 w'/\OwnI P zt w' sv ((t.ks.take i).map (M.sortM ds))/\(∀b,sv.ownBlock=some b->w2.heap.size<=b)/\(∀x,x∈(t.ks.take i).map (M.sortM ds)->x≠ -1)) ⟨_,rfl,Same.refl _ _,OwnI.nil,(λb h=>by cases h),by simp⟩ ?_;rintro i _ _ w3 C hi ⟨sv,rfl,d,B,L,n⟩ S;have k:=hE.trans d;have o:=m.ext k;simp only[push_cast];refine zh (λa=>?_) (λa=>?_)
  ·simp(disch:=first|(simp only[push_cast])|omega) only[push_cast,o.iaddr];refine o.load zp (by omega) λx r=>?_;obtain⟨cs,rfl,s⟩:=r.cells;refine zD zH λb2 w4 a4 e a7 h4=>?_;refine stTerm h4 rfl (s.ext e) λw5 Z aa h5=>?_;have p:Ext w3 w5:=Ext.then e Z λy Q=>by subst Q;omega
   rw[h5.ldAgg (t:=za) (by rw[yq s];exact zp)];refine ih _ (M.getD_mem (by omega) _) (hm.ext (k.trans p)) (hd.ext (k.trans p)) N (s.ext p).term λw6 V=>?_;simp only[push_cast];have f:=p.trans V;refine zh (λb=>?_) (λb=>?_)
   ·have:=U _ (k.trans f);rw[M.sortM_eq] at this;unfold M.sortF at this;rwa[if_neg (λh=>h.2 (b▸Gc (M.getD_mem (by omega) _)))] at this
   ·refine xQ Je YC X7 rfl rfl (by decide) λb3 w7 a5 z a8 h7=>?_;have O:=(B.ext f).ext z;have hlen:((t.ks.take i).map (M.sortM ds)).length=i:=by rw[X0,gi];omega
    refine O.app1 xB0 h7 (by rw[hlen];omega) (by rw[hlen];omega) λa1 w8 q a0 X=>?_
    try simp only[push_cast]
    rw[inc64' (by omega)];rw[JW _ (by omega)] at q;refine S (by omega) _ _ ⟨a1,rfl,Ext.then ((d.trans f).trans z) a0 λy Q=>L y Q,q,λy Q=>?_,λx r=>?_⟩
    ·rcases X y Q with h|h
     ·exact L y h
     ·have:=(d.trans f).size;have:=z.size;omega
    ·rw[<-JW _ (by omega) default] at r;rcases gk.1 r with r|r
     ·exact n x r
     ·rw[gn.1 r];exact b
  ·have W:i=t.ks.length:=(by omega);subst W;rw[gC] at B n;have R:=E.ext d;simp(disch:=(simp only[push_cast])) only[push_cast,R.ldAgg (t:=za) zp];refine I.sort _ _ F G _ _ _ _ ds t _ rfl (hd.ext k) ⟨ksv,rfl,o⟩ B.ints (by rw[X0];omega) (λj=>?_) λw4 e=>?_
   ·by_cases hj:j<t.ks.length
    ·rw[M.getD_map _ hj 0 default];exact M.sort_range N _
    ·rw[k6,po (by simpa using hj)];simp
   ·have:=U _ (k.trans e);rw[M.sortM_eq] at this;unfold M.sortF at this;rwa[if_pos ⟨hf,λh=>n _ h rfl⟩] at this
def nnB:M.Tm->Bool:=M.Tm.fold λt xs=>decide (t.op≠21)&&xs.all id
theorem Uk0 (t:M.Tm):nnB t=(decide (t.op≠21)&&(t.ks.map nnB).all id):=M.Tm.fold_eq _ t
theorem nnB_iff {t:M.Tm}:nnB t=true↔t.op≠21/\∀k,k∈t.ks->nnB k=true:=by
 rw[Uk0,V0,decide_eq_true_eq,gN];refine and_congr_right λ_=>⟨λh k a=>h _ (Gc a),λh y b=>?_⟩;obtain⟨k,a,rfl⟩:=gm.1 b;exact h k a
theorem valueOf_specG:∀(t:M.Tm) {w:World} {K:Value->World->Prop} {F G:Nat->Prop} {mb:Nat} {dv v ev:Value} {ds:List M.Dcl} {env:List Int},KindsR w mb->DclsR F w dv ds->M.envOk ds env=true->((∃eb,ev= .map (some eb)/\EnvM w eb ds env)\/nnB t=true)->TermR G w v t->M.sortM ds t≠ -1->
  (∀w',Ext w w'->K (Ye (M.sortM ds t) (M.evalM ds env t)) w')->vcall P YA #[.map (some mb),dv,v,ev] w K:=by
 refine M.Tm.ind λt ih w K F G mb dv v ev ds env hm hd B hE ht p hK=>?_;have a4:=(M.env_ok B).1;apply kb0;obtain⟨ksv,rfl,o⟩:=ht;obtain⟨hf,n,a5⟩:=M.sort_parts p;have L:=hf;simp only[M.formed,V0,decide_eq_true_eq] at L;have a9:t.ks.length<=3:=by
  have Y:=L.1;unfold M.arity at Y
  repeat' split at Y
  all_goals omega
 have ho:0<=M.arity t.op:=by omega
 refine zx λb1 w1 aa I ae Y=>?_;refine zD xD λb2 w2 ab J af h2=>?_;have q1:=Y.ext J;have H:=I.trans J;have aj:=H.size;have ai:=o.small;simp(disch:=(simp only[push_cast])) only[push_cast,q1.ld4,o.len];refine vloop_up t.ks.length (λi u w'=> ∃sv,u=[sv,.int .i64 i]/\Ext w2 w'/\OwnP P yi w' sv ((t.ks.take i).map (M.vecM ds env))/\(∀b,sv.ownBlock=some b->w2.heap.size<=b)) ⟨_,rfl,Same.refl _ _,OwnP.nil _,λb h=>by cases h⟩ ?_;rintro i _ _ w3 C hi ⟨sv,rfl,l,D,T⟩ hC;have f:=H.trans l;have r:=o.ext f;have ak:=l.size;simp only[push_cast];refine zh (λa=>?_) (λa=>?_)
 ·simp(disch:=first|(simp only[push_cast])|omega) only[push_cast,r.iaddr];refine r.load zp (by omega) λx hx=>?_;obtain⟨cs,rfl,z⟩:=hx.cells;refine zD zH λb3 w4 ac d ag h4=>?_;refine stTerm h4 rfl (z.ext d) λw5 a6 al h5=>?_;have c:Ext w3 w5:=Ext.then d a6 λy E=>by subst E;omega
  rw[h5.ldAgg (t:=za) (by rw[yq z];exact zp)];refine ih _ (M.getD_mem (by omega) _) (hm.ext (f.trans c)) (hd.ext (f.trans c)) B (hE.imp (λ⟨eb,e,h⟩=>⟨eb,e,h.ext (f.trans c)⟩) λh=>(nnB_iff.1 h).2 _ (M.getD_mem (by omega) _)) (z.ext c).term (n _ (M.getD_mem (by omega) _)) λw6 q=>?_;have m:=c.trans q;refine xQ Xa0 Q50 xD rfl rfl (by decide) λb4 w7 ad A ah h7=>?_;have W:=(D.ext m).ext A;have hlen:((t.ks.take i).map (M.vecM ds env)).length=i:=by rw[X0,gi];omega
  refine Own.app1k W Xp0 (by decide) h7 rfl (by intro v hv;simp only[gd,gw,or_false] at hv;rcases hv with rfl|rfl<;>rfl) (by rw[X0,hlen];omega) (by rw[X0,hlen];omega) λX w8 U a8 a3=>?_;rw[inc64' (by omega)];have V:OwnP P yi w8 X ((t.ks.take (i+1)).map (M.vecM ds env)):=by
   unfold OwnP;rw[<-JW _ (by omega) default,gx,M.vecM_pair ds env (t.ks.getD i default)];exact U
  refine hC (by omega) _ _ ⟨X,rfl,Ext.then ((l.trans m).trans A) a8 λy E=>T y E,V,λy E=>?_⟩;rcases a3 y E with h|h
  ·exact T y h
  ·have:=m.size;have:=A.size;omega
 ·have a0:i=t.ks.length:=(by omega);subst a0;rw[gC] at D;refine zr λw4 d _=>?_;have q4:=(q1.ext l).ext d;have g:=f.trans d;have R:=o.ext g;simp(disch:=(simp only[push_cast])) only[push_cast,q4.ld0,q4.ldAgg (t:=za) zp,true_and];refine Qm0 (hm.ext g) ho (Same.refl _ _) λkv a1 a2=>⟨rfl,?_⟩;refine sortOf_spec t (hm.ext g) (hd.ext g) a4 ⟨ksv,rfl,R⟩ λw5 c=>?_;have q5:=q4.ext c;simp(disch:=(simp only[push_cast])) only[push_cast,q5.ld0,q5.ldAgg (t:=za) zp,true_and,and_self];refine⟨a2 _ c,?_⟩;have s:=g.trans c;have S:(t.ks.map (M.vecM ds env)).length=t.ks.length:=X0 _;have O:∀j,j<t.ks.length->(t.ks.map (M.vecM ds env)).getD j (0,0)=(M.sortM ds (t.ks.getD j default),M.evalM ds env (t.ks.getD j default)):=λj Q=>(by rw[M.getD_map _ Q _ default,M.vecM_pair]);have N:(t.ks.map (M.vecM ds env)).map (·.1)=t.ks.map (M.sortM ds):=by
   rw[GM];exact Gj λk _=>M.vecM_sort ds env k
  refine a1.value _ _ G _ _ _ _ ds env t _ rfl (λZ=>hE.elim (λ⟨eb,e,h⟩=>⟨eb,e,h.ext s⟩) λh=>absurd Z (nnB_iff.1 h).1) ⟨ksv,rfl,o.ext s⟩ ((D.ext (d.trans c)).pairs) (by rw[S];omega) (λj Q=>?_) (by rw[N,<-a5];exact p) λw6 q=>?_
  ·rw[S] at Q;rw[O j Q];exact M.eval_in B _ (n _ (M.getD_mem Q _))
  ·simp only[push_cast,true_and];have h6:=(((h2.ext l).ext d).ext c).ext q;refine stVec h6 λw7 a7 _ h7=>?_;rw[h7.lv (by kernel_rfl)];have hX:Ext w w7:=Ext.then (s.trans q) a7 λy E=>by subst E;have:=I.size;omega
   have:=hK w7 hX;rw[M.evalM_eq] at this;exact this
theorem count_spec:∀(t:M.Tm) {w:World} {K:Value->World->Prop} {F:Nat->Prop} {v:Value} {m deep mb:Nat} {ty:TypeId},TermR F w v t->Blk w mb [.int .i64 m] ty->(∀b,F b->b≠mb)->m<=20->1<=deep->deep<=8->
  (∀w' (r B:Nat),Same (· =mb) w w'->Blk w' mb [.int .i64 B] ty->m<B->B<=21->deep<=r->r<=8->(m+M.sizeM t<=20/\deep-1+M.deepM t<=7->B=m+M.sizeM t/\r=deep-1+M.deepM t)->(¬(m+M.sizeM t<=20/\deep-1+M.deepM t<=7)->20<B\/7<r)->K (.int .i64 r) w')->
  vcall P Qp #[v,.int .i64 deep,.pointer (some ⟨mb,0,none⟩)] w K:=by
 refine M.Tm.ind λt ih w K F v m deep mb ty ht E hF hm a2 a3 J=>?_;apply YU0;obtain⟨ksv,rfl,n⟩:=ht;refine zx λb1 w1 a0 p a9 X=>?_;have o:=E.ext p;have V:=E.lt;have ab:=n.small;have hS:=M.szT_all t;have hD:=M.dpT_all t;simp(disch:=(simp only[push_cast])) only[push_cast,o.ld0];rw[inc64' (by omega)];refine o.st (i:=0) rfl rfl YC rfl λw2 A ac D=>?_;have s:Same (· =mb) w w2:=(Same.of_ext p).trans A;have q2:=X.same A (by omega);replace D:Blk w2 mb [.int .i64 (m+1:Nat)] ty:=D;refine zh (λa=>?_) (λa=>?_)
 ·exact J w2 deep (m+1) s D (by omega) (by omega) (by omega) (by omega) (λh=>by omega) (λh=>by omega)
 simp(disch:=(simp only[push_cast])) only[push_cast,q2.ld4,n.len];refine vloop_up t.ks.length (λi u w'=> ∃r mi:Nat,u=[.int .i64 r,.int .i64 i]/\Same (· =mb) w2 w'/\Blk w' mb [.int .i64 mi] ty/\m<mi/\mi<=21/\deep<=r/\r<=8/\(m+1+M.szT t.ks i<=20/\deep+M.dpT t.ks i<=7->mi=m+1+M.szT t.ks i/\r=deep+M.dpT t.ks i)/\(¬(m+1+M.szT t.ks i<=20/\deep+M.dpT t.ks i<=7)->20<mi\/7<r))
  ⟨deep,m+1,rfl,Same.refl _ _,D,by omega,by omega,by omega,by omega,λh=>by simp[M.szT,M.dpT],λh=>by
   have T:M.szT t.ks 0=0:=rfl;have e2:M.dpT t.ks 0=0:=rfl;omega⟩ ?_
 rintro i _ _ G C hi ⟨r,mi,rfl,z,I,c1,c2,c3,R,H,S⟩ hC;have d:Same (· =mb) w G:=s.trans z;have g:TmsR F G ksv t.ks:=n.same d λb E _ e=>hF b E e;have ad:=d.size;simp only[push_cast];refine zh (λb=>?_) (λb=>?_)
 ·have a5:=M.szT_mono (ks:=t.ks) (i:=i) (j:=t.ks.length) (by omega) (gr _);have a6:=M.dpT_mono (ks:=t.ks) (i:=i) (j:=t.ks.length) (by omega) (gr _);have a7:=M.szT_succ (ks:=t.ks) (i:=i) (by omega);have a8:=M.dpT_succ (ks:=t.ks) (i:=i) (by omega);simp(disch:=first|(simp only[push_cast])|omega) only[push_cast,g.iaddr];refine g.load zp (by omega) λx hx=>?_;obtain⟨cs,rfl,l⟩:=hx.cells;refine zD zH λb2 w4 a1 q aa Y=>?_;refine stTerm Y rfl (l.ext q) λW O ae Z=>?_;have f:Ext G W:=Ext.then q O λy hy=>by subst hy;omega
  have k:=I.ext f;have a4:=I.lt;simp(disch:=(simp only[push_cast])) only[push_cast,k.ld0];refine zh (λc=>?_) (λc=>?_)
  ·exact J W r mi (d.trans (Same.of_ext f)) k c1 c2 c3 R (λh=>by omega) (λh=>by omega)
  ·rw[Z.ldAgg (t:=za) (by rw[yq l];exact zp)];have T:IntKind.i64.wrap ((deep:Int)+1)=((deep+1:Nat):Int):=inc64' (by omega);rw[T];refine ih _ (M.getD_mem (by omega) _) (l.ext f).term k hF (by omega) (by omega) (by omega) λw6 Q m2 N h6 d1 d2 d3 d4 d5 d6=>?_;simp only[push_cast];rw[inc64' (by omega),show max (r:Int) (Q:Int)=((max r Q:Nat):Int) by omega];refine hC (by omega) _ _ ⟨max r Q,m2,rfl,(z.trans (Same.of_ext f)).trans N,h6,by omega,d2,by omega,by omega,λh=>?_,λh=>?_⟩
   ·have:=H (by omega);have:=d5 (by omega);omega
   ·by_cases U:m+1+M.szT t.ks i<=20/\deep+M.dpT t.ks i<=7
    ·have:=H U;have:=d6 (by omega);omega
    ·have:=S U;omega
 ·have L:i=t.ks.length:=(by omega);subst L;refine J G r mi d I c1 c2 c3 R (λh=>?_) (λh=>?_)
  ·have:=H (by omega);omega
  ·exact S (by omega)
theorem TermMany_spec {v:Value} {t:M.Tm} (A:TermR F w v t) (H:∀w',Ext w w'->K (.tuple #[.int .i64 (M.manyM t),.int .i64 (M.lvlM t)]) w'):vcall P XO #[v] w K:=by
 apply jp0;have s:=A.weaken (F':=λb=>b<w.heap.size) λb _ h=>h;obtain⟨ksv,rfl,L⟩:=A;refine zx λb1 w1 I o N E=>?_;refine Wf X7 λb2 w2 J g O l=>?_;replace l:Blk w2 b2 [.int .i64 0] ze:=l;refine l.st (i:=0) rfl rfl YC rfl λB k Q n=>?_;replace n:Blk B b2 [.int .i64 ((0:Nat):Int)] ze:=n;have S:=(E.ext g).same k (by omega);have j:Ext w B:=Ext.then (o.trans g) k λy x=>by subst x;omega
 rw[S.ldAgg (t:=za) zp];refine count_spec t (m:=0) (deep:=1) (s.ext j) n (λb V e=>by omega) (by omega) (by omega) (by omega) λC r R q G c1 c2 c3 T f D=>?_;have p:Ext w C:=Ext.then j q λy x=>by subst x;omega
 have d:=H C p;have c:M.fits t=true↔M.sizeM t<=20/\M.deepM t<=7:=M.fits_iff;unfold M.manyM M.lvlM at d;simp(disch:=(simp only[push_cast])) only[push_cast,G.ld0];refine zh (λa=>?_) (λa=>?_)
 ·rw[if_neg (λh=>by have u:=c.1 h;have:=f (by omega);omega),if_neg (λh=>by have u:=c.1 h;have:=f (by omega);omega)] at d;exact d
 ·refine zh (λb=>?_) (λb=>?_)
  ·rw[if_neg (λh=>by have u:=c.1 h;have:=f (by omega);omega),if_neg (λh=>by have u:=c.1 h;have:=f (by omega);omega)] at d;exact d
  ·have z:M.sizeM t<=20/\M.deepM t<=7:=by
    by_cases h:M.sizeM t<=20/\M.deepM t<=7
    ·exact h
    ·have:=D (by omega);omega
   have U:=f (by omega);rw[if_pos (c.2 z),if_pos (c.2 z)] at d;rw[show R=M.sizeM t by omega,show r=M.deepM t by omega];exact d
end
end Go.Proofs.YtokflbdfnbppjaaGreatDoor
namespace Go.Proofs
open Go.Shelf
def YtokflbdfnbppjaaGreatDoor.sortL_ren:Go.Shelf.Ren:=⟨λ|6=>209 |15=>230 |14=>229 |28=>252 |29=>253 |20=>244 |21=>245 |22=>246 |23=>247 |24=>248 |25=>249 |26=>250 |27=>251 |46=>259 |47=>260 |48=>261 |49=>262 |50=>263 |57=>266 |n=>n,λ|22=>32 |24=>3 |25=>99 |3=>3 |39=>214 |0=>0 |53=>317 |55=>205 |4=>4 |46=>327 |45=>326 |50=>74 |5=>5 |9=>9 |66=>336 |70=>152 |76=>341 |77=>83 |n=>n,λ|n=>n⟩
theorem YtokflbdfnbppjaaGreatDoor.sortL:Go.Proofs.SlLaysF.n6 Tryz.prog YtokflbdfnbppjaaGreatDoor.sortL_ren:={
 mixed:=by kernel_rfl
 f6:=⟨Tryz.f209.name,by decide,Tryz.func209.trans (congrArg some (by kernel_rfl))⟩
 f14:=⟨Tryz.f229.name,by decide,Tryz.func229.trans (congrArg some (by kernel_rfl))⟩
 f15:=Tryz.func230.trans (congrArg some (by kernel_rfl))
 f20:=⟨Tryz.f244.name,by decide,Tryz.func244.trans (congrArg some (by kernel_rfl))⟩
 f21:=⟨Tryz.f245.name,by decide,Tryz.func245.trans (congrArg some (by kernel_rfl))⟩
 f22:=⟨Tryz.f246.name,by decide,Tryz.func246.trans (congrArg some (by kernel_rfl))⟩
 f23:=⟨Tryz.f247.name,by decide,Tryz.func247.trans (congrArg some (by kernel_rfl))⟩
 f24:=⟨Tryz.f248.name,by decide,Tryz.func248.trans (congrArg some (by kernel_rfl))⟩
 f25:=⟨Tryz.f249.name,by decide,Tryz.func249.trans (congrArg some (by kernel_rfl))⟩
 f26:=⟨Tryz.f250.name,by decide,Tryz.func250.trans (congrArg some (by kernel_rfl))⟩
 f27:=⟨Tryz.f251.name,by decide,Tryz.func251.trans (congrArg some (by kernel_rfl))⟩
 f28:=Tryz.func252.trans (congrArg some (by kernel_rfl))
 f29:=Tryz.func253.trans (congrArg some (by kernel_rfl))
 f46:=⟨Tryz.f259.name,by decide,Tryz.func259.trans (congrArg some (by kernel_rfl))⟩
 f47:=Tryz.func260.trans (congrArg some (by kernel_rfl))
 f48:=Tryz.func261.trans (congrArg some (by kernel_rfl))
 f49:=⟨Tryz.f262.name,by decide,Tryz.func262.trans (congrArg some (by kernel_rfl))⟩
 f50:=⟨Tryz.f263.name,by decide,Tryz.func263.trans (congrArg some (by kernel_rfl))⟩
 f57:=⟨Tryz.f266.name,by decide,Tryz.func266.trans (congrArg some (by kernel_rfl))⟩
 t0:=Tryz.underlying0
 a0:=Tryz.isAgg0
 z0:=Tryz.sizeOf0
 v0:=Tryz.zeroValue0
 t3:=Tryz.underlying3
 a3:=Tryz.isAgg3
 z3:=Tryz.sizeOf3
 v3:=Tryz.zeroValue3
 t4:=Tryz.underlying4
 a4:=Tryz.isAgg4
 z4:=Tryz.sizeOf4
 v4:=Tryz.zeroValue4
 t5:=Tryz.underlying5
 a5:=Tryz.isAgg5
 z5:=Tryz.sizeOf5
 v5:=Tryz.zeroValue5
 t9:=Tryz.underlying9
 a9:=Tryz.isAgg9
 z9:=Tryz.sizeOf9
 v9:=Tryz.zeroValue9
 t22:=Tryz.underlying32
 a22:=Tryz.isAgg32
 z22:=Tryz.sizeOf32
 v22:=Tryz.zeroValue32
 a24:=Tryz.isAgg3
 z24:=Tryz.sizeOf3
 t25:=Tryz.underlying99
 a25:=Tryz.isAgg99
 z25:=Tryz.sizeOf99
 v25:=Tryz.zeroValue99
 t39:=Tryz.underlying214
 a39:=Tryz.isAgg214
 z39:=Tryz.sizeOf214
 v39:=Tryz.zeroValue214
 t45:=Tryz.underlying326
 a45:=Tryz.isAgg326
 z45:=Tryz.sizeOf326
 v45:=Tryz.zeroValue326
 t46:=Tryz.underlying327
 a46:=Tryz.isAgg327
 z46:=Tryz.sizeOf327
 v46:=Tryz.zeroValue327
 t50:=Tryz.underlying74
 a50:=Tryz.isAgg74
 z50:=Tryz.sizeOf74
 v50:=Tryz.zeroValue74
 t53:=Tryz.underlying317
 a53:=Tryz.isAgg317
 z53:=Tryz.sizeOf317
 v53:=Tryz.zeroValue317
 t55:=Tryz.underlying205
 a55:=Tryz.isAgg205
 z55:=Tryz.sizeOf205
 v55:=Tryz.zeroValue205
 t66:=Tryz.underlying336
 a66:=Tryz.isAgg336
 z66:=Tryz.sizeOf336
 v66:=Tryz.zeroValue336
 t70:=Tryz.underlying152
 a70:=Tryz.isAgg152
 z70:=Tryz.sizeOf152
 v70:=Tryz.zeroValue152
 t76:=Tryz.underlying341
 a76:=Tryz.isAgg341
 z76:=Tryz.sizeOf341
 v76:=Tryz.zeroValue341
 t77:=Tryz.underlying83
 a77:=Tryz.isAgg83
 z77:=Tryz.sizeOf83
 v77:=Tryz.zeroValue83}
def YtokflbdfnbppjaaGreatDoor.trimL_ren:Go.Shelf.Ren:=⟨λ|160=>77 |232=>93 |231=>92 |227=>94 |234=>96 |233=>95 |236=>98 |235=>97 |228=>108 |271=>111 |151=>110 |197=>109 |120=>121 |152=>120 |260=>119 |137=>133 |119=>134 |224=>135 |225=>136 |217=>149 |266=>172 |n=>n,λ|9=>9 |4=>4 |3=>3 |5=>5 |117=>146 |116=>145 |0=>0 |124=>149 |21=>21 |105=>162 |46=>214 |119=>213 |139=>217 |138=>216 |n=>n,λ|3=>4 |4=>5 |n=>n⟩
theorem YtokflbdfnbppjaaGreatDoor.trimL:Go.Proofs.Lays.n160 Tryz.prog YtokflbdfnbppjaaGreatDoor.trimL_ren:={
 mixed:=by kernel_rfl
 f119:=Tryz.func134.trans (congrArg some (by kernel_rfl))
 f120:=Tryz.func121.trans (congrArg some (by kernel_rfl))
 f137:=Tryz.func133.trans (congrArg some (by kernel_rfl))
 f151:=Tryz.func110.trans (congrArg some (by kernel_rfl))
 f152:=Tryz.func120.trans (congrArg some (by kernel_rfl))
 f160:=Tryz.func77.trans (congrArg some (by kernel_rfl))
 f197:=Tryz.func109.trans (congrArg some (by kernel_rfl))
 f217:=Tryz.func149.trans (congrArg some (by kernel_rfl))
 f224:=Tryz.func135.trans (congrArg some (by kernel_rfl))
 f225:=Tryz.func136.trans (congrArg some (by kernel_rfl))
 f227:=Tryz.func94.trans (congrArg some (by kernel_rfl))
 f228:=Tryz.func108.trans (congrArg some (by kernel_rfl))
 f231:=Tryz.func92.trans (congrArg some (by kernel_rfl))
 f232:=Tryz.func93.trans (congrArg some (by kernel_rfl))
 f233:=Tryz.func95.trans (congrArg some (by kernel_rfl))
 f234:=Tryz.func96.trans (congrArg some (by kernel_rfl))
 f235:=Tryz.func97.trans (congrArg some (by kernel_rfl))
 f236:=Tryz.func98.trans (congrArg some (by kernel_rfl))
 f260:=Tryz.func119.trans (congrArg some (by kernel_rfl))
 f266:=Tryz.func172.trans (congrArg some (by kernel_rfl))
 f271:=Tryz.func111.trans (congrArg some (by kernel_rfl))
 t0:=Tryz.underlying0
 a0:=Tryz.isAgg0
 z0:=Tryz.sizeOf0
 v0:=Tryz.zeroValue0
 t3:=Tryz.underlying3
 a3:=Tryz.isAgg3
 z3:=Tryz.sizeOf3
 v3:=Tryz.zeroValue3
 t4:=Tryz.underlying4
 a4:=Tryz.isAgg4
 z4:=Tryz.sizeOf4
 v4:=Tryz.zeroValue4
 t5:=Tryz.underlying5
 a5:=Tryz.isAgg5
 z5:=Tryz.sizeOf5
 v5:=Tryz.zeroValue5
 t9:=Tryz.underlying9
 a9:=Tryz.isAgg9
 z9:=Tryz.sizeOf9
 v9:=Tryz.zeroValue9
 t21:=Tryz.underlying21
 a21:=Tryz.isAgg21
 z21:=Tryz.sizeOf21
 v21:=Tryz.zeroValue21
 t46:=Tryz.underlying214
 a46:=Tryz.isAgg214
 z46:=Tryz.sizeOf214
 v46:=Tryz.zeroValue214
 t105:=Tryz.underlying162
 a105:=Tryz.isAgg162
 z105:=Tryz.sizeOf162
 v105:=Tryz.zeroValue162
 t116:=Tryz.underlying145
 a116:=Tryz.isAgg145
 z116:=Tryz.sizeOf145
 t117:=Tryz.underlying146
 a117:=Tryz.isAgg146
 z117:=Tryz.sizeOf146
 v117:=Tryz.zeroValue146
 t119:=Tryz.underlying213
 a119:=Tryz.isAgg213
 z119:=Tryz.sizeOf213
 t124:=Tryz.underlying149
 a124:=Tryz.isAgg149
 z124:=Tryz.sizeOf149
 v124:=Tryz.zeroValue149
 t138:=Tryz.underlying216
 a138:=Tryz.isAgg216
 z138:=Tryz.sizeOf216
 v138:=Tryz.zeroValue216
 t139:=Tryz.underlying217
 a139:=Tryz.isAgg217
 z139:=Tryz.sizeOf217
 v139:=Tryz.zeroValue217
 g3:=by kernel_rfl
 g4:=by kernel_rfl}
def YtokflbdfnbppjaaGreatDoor.joinL_ren:Go.Shelf.Ren:=⟨λ|156=>156 |165=>182 |166=>183 |169=>184 |240=>219 |241=>220 |276=>237 |277=>238 |n=>n,λ|31=>140 |9=>9 |3=>3 |4=>4 |0=>0 |20=>20 |72=>269 |76=>270 |70=>267 |37=>22 |75=>121 |127=>298 |164=>314 |5=>5 |80=>248 |n=>n,λ|n=>n⟩
theorem YtokflbdfnbppjaaGreatDoor.joinL:Go.Proofs.Lays.n156 Tryz.prog YtokflbdfnbppjaaGreatDoor.joinL_ren:={
 mixed:=by kernel_rfl
 f156:=Tryz.func156.trans (congrArg some (by kernel_rfl))
 f165:=Tryz.func182.trans (congrArg some (by kernel_rfl))
 f166:=Tryz.func183.trans (congrArg some (by kernel_rfl))
 f169:=Tryz.func184.trans (congrArg some (by kernel_rfl))
 f240:=Tryz.func219.trans (congrArg some (by kernel_rfl))
 f241:=Tryz.func220.trans (congrArg some (by kernel_rfl))
 f276:=Tryz.func237.trans (congrArg some (by kernel_rfl))
 f277:=Tryz.func238.trans (congrArg some (by kernel_rfl))
 t0:=Tryz.underlying0
 a0:=Tryz.isAgg0
 z0:=Tryz.sizeOf0
 v0:=Tryz.zeroValue0
 t3:=Tryz.underlying3
 a3:=Tryz.isAgg3
 z3:=Tryz.sizeOf3
 v3:=Tryz.zeroValue3
 t4:=Tryz.underlying4
 a4:=Tryz.isAgg4
 z4:=Tryz.sizeOf4
 v4:=Tryz.zeroValue4
 t9:=Tryz.underlying9
 a9:=Tryz.isAgg9
 z9:=Tryz.sizeOf9
 v9:=Tryz.zeroValue9
 t20:=Tryz.underlying20
 a20:=Tryz.isAgg20
 z20:=Tryz.sizeOf20
 v20:=Tryz.zeroValue20
 t31:=Tryz.underlying140
 a31:=Tryz.isAgg140
 z31:=Tryz.sizeOf140
 v31:=Tryz.zeroValue140
 t37:=Tryz.underlying22
 a37:=Tryz.isAgg22
 z37:=Tryz.sizeOf22
 v37:=Tryz.zeroValue22
 t70:=Tryz.underlying267
 a70:=Tryz.isAgg267
 z70:=Tryz.sizeOf267
 v70:=Tryz.zeroValue267
 t72:=Tryz.underlying269
 a72:=Tryz.isAgg269
 z72:=Tryz.sizeOf269
 v72:=Tryz.zeroValue269
 t75:=Tryz.underlying121
 a75:=Tryz.isAgg121
 z75:=Tryz.sizeOf121
 v75:=Tryz.zeroValue121
 t76:=Tryz.underlying270
 a76:=Tryz.isAgg270
 z76:=Tryz.sizeOf270
 v76:=Tryz.zeroValue270
 t127:=Tryz.underlying298
 a127:=Tryz.isAgg298
 z127:=Tryz.sizeOf298
 v127:=Tryz.zeroValue298
 t164:=Tryz.underlying314
 a164:=Tryz.isAgg314
 z164:=Tryz.sizeOf314
 v164:=Tryz.zeroValue314}
end Go.Proofs
namespace Go.Proofs.YtokflbdfnbppjaaGreatDoor
open Go Go.Vc Go.Proofs
section
variable {w:World} {K:Value->World->Prop} {F G:Nat->Prop}
theorem dw_nil {α:Type} {p:α->Bool}:∀{l:List α},l.dropWhile p=[]↔ ∀x,x∈l->p x=true
 |[]=>by simp
 |a::l=>by
  rw[PD];split
  ·rename_i h;rw[dw_nil];constructor
   ·intro b x c;rcases gd.1 c with rfl|c
    ·exact h
    ·exact b x c
   ·intro b x c;exact b x (gj _ c)
  ·rename_i h;constructor
   ·intro b;cases b
   ·intro b;exact absurd (b a gg) h
theorem dw_head {α:Type} {p:α->Bool}:∀{l:List α},l.dropWhile p≠[]->∃x,x∈l.dropWhile p/\p x=false
 |[],h=>absurd rfl h
 |a::l,h=>by
  rw[PD] at h⊢;split
  ·rename_i b;rw[if_pos b] at h;exact dw_head h
  ·rename_i b;exact⟨a,gg,by simpa using b⟩
theorem dw_sub {α:Type} {p:α->Bool}:∀{l:List α} {x:α},x∈l.dropWhile p->x∈l
 |[],_,h=>h
 |a::l,x,h=>by
  rw[PD] at h;split at h
  ·exact gj _ (dw_sub h)
  ·exact h
theorem KZ0 {l cs:List UInt8}:Lib.trimS l cs=[]↔ ∀x,x∈l->cs.contains x=true:=by
 unfold Lib.trimS Lib.trimLeftS Lib.trimRightS;rw[dw_nil];constructor
 ·intro h;by_cases a:∀x,x∈l->cs.contains x=true
  ·exact a
  ·exfalso;have b:List.dropWhile (λx=>cs.contains x) l.reverse≠[]:=λe=>a λx c=>dw_nil.1 e x (Ps.2 c);obtain⟨y,g,f⟩:=dw_head b;have d:=h y (Ps.2 g);rw[f] at d;cases d
 ·intro h x c;exact h x (Ps.1 (dw_sub (Ps.1 c)))
def abc:ByteArray:=⟨#[97,98,99,100,101,102,103,104,105,106,107,108,109,110,111,112,113,114,115,116,117,118,119,120,121,122]⟩
theorem abc_in (x:UInt8):abc.data.toList.contains x=(decide (97<=x.toNat)&&decide (x.toNat<=122)):=by
 have a:∀n:Fin 256,abc.data.toList.contains (UInt8.ofNat n.1)=(decide (97<=(UInt8.ofNat n.1).toNat)&&decide ((UInt8.ofNat n.1).toNat<=122)):=by decide+kernel
 have:=a ⟨x.toNat,x.toNat_lt⟩;simpa using this
theorem X00 {w w':World} (h:Go.RowKit.Below w.heap.size w w'):Ext w w':=⟨h.os,h.tape,h.output,h.size,λb a _=>h.block b a⟩
def Yu0 (s:ByteArray):Bool:=s.data.all λc=>decide (97<=c.toNat)&&decide (c.toNat<=122)
theorem Ko0 {s:ByteArray} (hs:s.size<=9223372036854775807) (f:∀w' r,Ext w w'->(r=⟨#[]⟩↔Yu0 s=true)->K (.string r) w'):vcall P U6 #[.string s,.string abc] w K:=by
 refine⟨by kernel_rfl,?_⟩;refine(Any.strings_Trim_laid YtokflbdfnbppjaaGreatDoor.trimL (by kernel_rfl) s abc w hs (by decide) (ascii_of_all (by decide))).mono ?_;rintro e w' ⟨rfl,g⟩;refine f w' _ (X00 g) ?_;have c:((⟨(Lib.trimS s.data.toList abc.data.toList).toArray⟩:ByteArray)=⟨#[]⟩)↔Lib.trimS s.data.toList abc.data.toList=[]:=by
  constructor
  ·intro h;have d:=congrArg (λb:ByteArray=>b.data.toList) h;simpa using d
  ·intro h;rw[h]
 rw[c,KZ0];unfold Yu0;rw[pE];constructor
 ·intro h x a;rw[<-abc_in];exact h x (pA.2 a)
 ·intro h x a;rw[abc_in];exact h x (pA.1 a)
theorem stDecl {b:Nat} {x y:Value} {t:TypeId} {s:ByteArray} {n:Int} (h:Blk w b [x,y] t) (c:∀w',Same (· =b) w w'->w'.heap.size=w.heap.size->Blk w' b [.string s,.int .i64 n] t->K undef w'):zn P zA (.pointer (some ⟨b,0,none⟩)) (.agg ⟨[.string s,.int .i64 n]⟩) w K:=
 h.stAgg rfl (by kernel_rfl) (by intro v a;simp only[gd,gw,or_false] at a;rcases a with rfl|rfl<;>rfl) c
theorem Vb (s:ByteArray):M.nameOk s=(decide (1<=s.size)&&decide (s.size<=4)&&decide (s≠M.tru)&&Yu0 s):=rfl
theorem DeclOk_spec {v:Value} {ds:List M.Dcl} (N:DclsR F w v ds) (D:∀w',Ext w w'->K (.bool (M.declOk ds)) w'):vcall P kF #[v] w K:=by
 apply Ya0;simp(disch:=(simp only[push_cast])) only[push_cast,N.len];refine zh (λa=>?_) (λa=>?_)
 ·have:=D w (Same.refl _ _);rwa[show M.declOk ds=false from by rw[G6];intro h;have:=(M.decl_iff.1 h).1;omega] at this
 refine vloop_up ds.length (λi u w'=>u=[.int .i64 (M.bitT ds i),.int .i64 i]/\Ext w w'/\(∀j,j<i->M.dclOk ds j=true)/\ -4*(i:Int)<=M.bitT ds i/\M.bitT ds i<=4*i) ⟨rfl,Same.refl _ _,by omega,by simp[M.bitT],by simp[M.bitT]⟩ ?_;rintro i _ _ w1 C hi ⟨rfl,o,q,a0,a1⟩ hC;have E:=N.ext o;simp only[push_cast];refine zh (λb=>?_) (λb=>?_)
 ·have z:i<ds.length:=(by omega);have d:M.dclOk ds i=false->∀w',Ext w w'->K (.bool false) w':=λe w' he=>by
   have:=D w' he;rwa[show M.declOk ds=false from by rw[G6];intro h;have:=(M.decl_iff.1 h).2.1 i z;rw[e] at this;cases this] at this
  unfold M.dclOk at d;rw[Vb] at d;simp(disch:=first|(simp only[push_cast])|omega) only[push_cast,E.iaddr,E.load];obtain⟨s,n,B⟩:∃s n,ds.getD i Xv0=(s,n):=⟨_,_,rfl⟩;simp only[B] at d⊢;refine zD jR λb1 w2 U O a4 X=>?_;refine stDecl X λW R _ S=>?_;have a6:=o.size;have k:Ext w W:=Ext.then (o.trans O) R λy hy=>by subst hy;omega
  refine zS (λu w'=>u=[]/\Ext W w'/\M.nameOk s=true) (λC' L=>?_) ?_
  ·simp(disch:=first|(simp only[push_cast])|omega) only[push_cast,S.ld0,kW0 Ji];refine zh (λc=>?_) (λc=>?_)
   ·exact d (by rw[decide_eq_false (show¬1<=s.size by omega)];simp) _ k
   refine zh (λc2=>?_) (λc2=>?_)
   ·exact d (by rw[decide_eq_false (show¬s.size<=4 by omega)];simp) _ k
   refine zh (λc3=>?_) (λc3=>?_)
   ·exact d (by rw[show decide (s≠M.tru)=false from decide_eq_false (λh=>h c3)];simp) _ k
   refine Ko0 (by omega) λw4 r l V=>?_;simp only[push_cast];refine zh (λI=>?_) (λI=>?_)
   ·have:Yu0 s=false:=by
     rw[G6];exact λh=>I (V.2 h)
    exact d (by rw[this];simp) _ (k.trans l)
   ·have J:r=⟨#[]⟩:=by
     by_cases h:r=⟨#[]⟩
     ·exact h
     ·exact absurd h I
    refine L _ _ ⟨rfl,l,?_⟩;rw[Vb,decide_eq_true (show 1<=s.size by omega),decide_eq_true (show s.size<=4 by omega),show decide (s≠M.tru)=true from decide_eq_true c3,V.1 J];rfl
  ·rintro u g w4 ⟨rfl,l,A⟩;have T:=S.ext l;have f:=k.trans l;have G:=N.ext f;rw[Vb] at A;rw[A] at d;rw[G.cut (by intro e;subst e;simp at z) (by kernel_rfl) (by omega)];simp only[push_cast];have a3:(ds.take i).length=i:=by rw[gi];omega
   refine xu0 (p:=λj=>decide (((ds.take i).getD j Xv0).1=s)) (G.taken (by omega)) (λj hj=>?_) λw5 m=>?_
   ·intro w' K he D;simp only[push_cast];apply jr0;refine zx λb3 w6 a2 H a5 Z=>?_;have h7:=(T.ext he).ext H;simp(disch:=first|(simp only[push_cast])|omega) only[push_cast,Z.ld0,h7.ld0];exact D _ H
   ·rw[<-UQ];have Y:=T.ext m;have efd:idxI (ds.take i).length (λj=>decide (((ds.take i).getD j Xv0).1=s))=M.findD (ds.take i) s:=rfl;rw[efd];refine zh (λc=>?_) (λc=>?_)
    ·exact d (by rw[decide_eq_false (show¬M.findD (ds.take i) s<0 by omega)];simp) _ (f.trans m)
    simp(disch:=first|(simp only[push_cast])|omega) only[push_cast,Y.ld1];refine zh (λc1=>?_) (λc1=>?_)
    ·exact d (by rw[decide_eq_false (show¬1<=n by omega)];simp) _ (f.trans m)
    refine zh (λc2=>?_) (λc2=>?_)
    ·exact d (by rw[decide_eq_false (show¬n<=4 by omega)];simp) _ (f.trans m)
    have t:=M.bitT_succ z;rw[show ds.getD i (M.nada,0)=(s,n) from B] at t;rw[zJ (x:=M.bitT ds i+n) (by omega) (by omega),inc64' (by omega),show M.bitT ds i+n=M.bitT ds (i+1) from t.symm];refine hC (by omega) _ _ ⟨rfl,f.trans m,λj hj=>?_,by omega,by omega⟩;by_cases e:j=i
    ·subst e;unfold M.dclOk;rw[show ds.getD j (M.nada,0)=(s,n) from B,Vb,A];simp only[pH,V0,decide_eq_true_eq];exact⟨⟨by omega,by omega⟩,by omega⟩
    ·exact q j (by omega)
 ·have Q:i=ds.length:=(by omega);subst Q;have:=D w1 o;rw[M.bitT_all];have e:M.declOk ds=decide (M.bits ds<=8):=by
   rw[PA,M.decl_iff,decide_eq_true_eq];exact⟨λh=>h.2.2,λh=>⟨by omega,q,h⟩⟩
  rwa[e] at this
theorem TermSort_spec {dv v:Value} {ds:List M.Dcl} {t:M.Tm} (r:DclsR F w dv ds) (z:TermR G w v t) (q:∀w',Ext w w'->K (.int .i64 (M.tsort ds t)) w'):vcall P jm #[dv,v] w K:=by
 apply jn0;obtain⟨cs,rfl,c⟩:=z.cells;refine zx λb1 w1 u g y n=>?_;rw[n.ldAgg (t:=za) (by rw[yq c];exact zp)];refine TermMany_spec (c.ext g).term λw2 i=>?_;simp only[push_cast];have e:=g.trans i;refine DeclOk_spec (r.ext e) λA j=>?_;have f:=e.trans j;have m:=q A f;unfold M.tsort at m;simp only[push_cast];refine zK (λa=>?_) (λa=>?_)
 ·rwa[if_neg (λh=>by rw[h.2] at a;cases a)] at m
 ·rw[Gz] at a;refine zh (λb=>?_) (λb=>?_)
  ·rw[if_neg (λh=>by
    have n:=M.fits_iff.1 h.1;unfold M.manyM at b;rw[if_pos h.1] at b;omega)] at m
   exact m
  ·have x:M.fits t=true:=by
    by_cases h:M.fits t=true
    ·exact h
    ·unfold M.manyM at b;rw[if_neg h] at b;omega
   refine zr λC k _=>?_;have p:=((n.ext i).ext j).ext k;rw[p.ldAgg (t:=za) (by rw[yq c];exact zp)];refine⟨rfl,kK0 λD mb l hm=>?_⟩;have s:=p.ext l;rw[s.ldAgg (t:=za) (by rw[yq c];exact zp)];have d:=(f.trans k).trans l;refine⟨⟨rfl,rfl⟩,sortOf_spec t hm (r.ext d) a (c.ext d).term λB o=>?_⟩;have:=q B (d.trans o);unfold M.tsort at this;rwa[if_pos ⟨x,a⟩] at this
end
section
variable {w:World} {K:Value->World->Prop} {F G:Nat->Prop}
theorem l2Name_spec {s:ByteArray} (hs:s.size<=9223372036854775807) (d:K (.bool (M.nameOk s)) w):vcall P K4 #[.string s] w K:=by
 apply ZN0;rw[Vb] at d;refine vloop_up s.size (λi u w'=>u=[.int .i64 i]/\w'=w/\∀j,j<i->(decide (97<=(s.data.getD j 0).toNat)&&decide ((s.data.getD j 0).toNat<=122))=true) ⟨rfl,rfl,by omega⟩ ?_;rintro i _ _ w1 C r ⟨rfl,rfl,g⟩ o;simp(disch:=first|(simp only[push_cast])|omega) only[push_cast,kW0 Ji];have l:i<s.size->(decide (97<=(s.data.getD i 0).toNat)&&decide ((s.data.getD i 0).toNat<=122))=false->Yu0 s=false:=λf h=>by
  rw[G6];intro k;unfold Yu0 at k;rw[pE] at k;have m:i<s.data.size:=f;have:=k (s.data.getD i 0) (by rw[gL,Gq m];exact Array.getElem_mem m);rw[h] at this;cases this
 refine zh (λa=>?_) (λa=>?_)
 ·have f:i<s.size:=(by omega);rw[vindex_str Ji (by omega) (by omega),gl];simp only[push_cast];refine zh (λb=>?_) (λb=>?_)
  ·rw[l f (by rw[decide_eq_false (show¬97<=(s.data.getD i 0).toNat by omega)];rfl),pj] at d;exact d
  rw[vindex_str Ji (by omega) (by omega),gl];simp only[push_cast];refine zh (λc=>?_) (λc=>?_)
  ·rw[l f (by rw[decide_eq_false (show¬(s.data.getD i 0).toNat<=122 by omega)];simp),pj] at d;exact d
  rw[inc64' (by omega)];refine o f _ _ ⟨rfl,rfl,λj n=>?_⟩;by_cases e:j=i
  ·subst e;simp only[V0,decide_eq_true_eq];omega
  ·exact g j (by omega)
 ·have p:i=s.size:=(by omega);have k:Yu0 s=true:=by
   unfold Yu0;rw[pE];intro x q;obtain⟨j,n,rfl⟩:=Array.getElem_of_mem q;have:=g j (by have:s.data.size=s.size:=rfl;omega);rwa[gL,Gq n] at this
  rw[k,Pw] at d
  try simp(disch:=first|(simp only[push_cast])|omega) only[push_cast,kW0 Ji]
  refine zh (λb=>?_) (λb=>?_)
  ·refine zh (λc=>?_) (λc=>?_)
   ·rw[decide_eq_true (show 1<=s.size by omega),decide_eq_true (show s.size<=4 by omega)] at d;exact d
   ·rw[decide_eq_false (show¬s.size<=4 by omega)] at d;simpa using d
  ·rw[decide_eq_false (show¬1<=s.size by omega)] at d;simpa using d
theorem l2Find_spec {v:Value} {ds:List M.Dcl} {s:ByteArray} (f:DclsR F w v ds) (d:K (.int .i64 (M.findD ds s)) w):vcall P Xw #[v,.string s] w K:=by
 apply ZO0;have k:=f.small;refine vloop_up ds.length (λi u w'=>u=[.int .i64 i]/\w'=w/\∀j,j<i->(ds.getD j Xv0).1≠s) ⟨rfl,rfl,by omega⟩ ?_;rintro i _ _ w1 C l ⟨rfl,rfl,c⟩ g;simp(disch:=(simp only[push_cast])) only[push_cast,f.len];refine zh (λa=>?_) (λa=>?_)
 ·try simp(disch:=first|(simp only[push_cast])|omega) only[push_cast,f.iaddr]
  try simp(disch:=first|(simp only[push_cast])|omega) only[push_cast,f.load0]
  refine zh (λb=>?_) (λb=>?_)
  ·rw[M.findD_of (by omega) b c] at d;exact d
  ·rw[inc64' (by omega)];refine g (by omega) _ _ ⟨rfl,rfl,λj h=>?_⟩;by_cases e:j=i
   ·subst e;exact b
   ·exact c j (by omega)
 ·rw[M.findD_none (λj h=>c j (by omega))] at d;exact d
theorem spec_DeclOk_spec {v:Value} {ds:List M.Dcl} (E:DclsR F w v ds) (D:∀i,i<ds.length->(ds.getD i Xv0).1.size<=9223372036854775807) (A:∀w',Ext w w'->K (.bool (M.declOk ds)) w'):vcall P Xx #[v] w K:=by
 apply ZV0;simp(disch:=(simp only[push_cast])) only[push_cast,E.len];refine zh (λa=>?_) (λa=>?_)
 ·have:=A w (Same.refl _ _);rwa[show M.declOk ds=false from by rw[G6];intro h;have:=(M.decl_iff.1 h).1;omega] at this
 refine vloop_up ds.length (λi u w'=>u=[.int .i64 (M.bitT ds i),.int .i64 i]/\Ext w w'/\(∀j,j<i->M.dclOk ds j=true)/\ -4*(i:Int)<=M.bitT ds i/\M.bitT ds i<=4*i) ⟨rfl,Same.refl _ _,by omega,by simp[M.bitT],by simp[M.bitT]⟩ ?_;rintro i _ _ w1 C J ⟨rfl,p,m,H,I⟩ G;have r:=E.ext p;simp(disch:=(simp only[push_cast])) only[push_cast,r.len];refine zh (λb=>?_) (λb=>?_)
 ·have g:i<ds.length:=(by omega);have f:M.dclOk ds i=false->∀w',Ext w w'->K (.bool false) w':=λe w' he=>by
   have:=A w' he;rwa[show M.declOk ds=false from by rw[G6];intro h;have:=(M.decl_iff.1 h).2.1 i g;rw[e] at this;cases this] at this
  unfold M.dclOk at f;refine zr λw2 t _=>?_;have d:=r.ext t;have k:=p.trans t;simp(disch:=first|(simp only[push_cast])|omega) only[push_cast,d.iaddr,true_and];simp(disch:=first|(simp only[push_cast])|omega) only[push_cast,d.load0,d.load1,true_and];have y:=D i g;have o:=M.bitT_succ g;obtain⟨s,n,l⟩:∃s n,ds.getD i Xv0=(s,n):=⟨_,_,rfl⟩;rw[show ds.getD i (M.nada,0)=(s,n) from l] at o;simp only[l] at f y⊢;refine l2Name_spec y ?_;simp only[push_cast,true_and];refine zK (λc=>?_) (λc=>?_)
  ·exact f (by rw[show M.nameOk s=false by simpa using c];simp) _ k
  rw[Gz] at c;rw[c] at f;have ecut:∀(w:World) (K:Value->World->Prop),yQ P zi v none (some (.int .i64 (i:Int))) none w K=K (cutV v i) w:=λw K=>d.cut (by intro e;subst e;simp at g) (by kernel_rfl) (by omega);have z:∀(K:Value->World->Prop),zf P zT (.pointer (some ((eaddr v 2 i).add 0))) w2 K=K (.string s) w2:=λK=>(by rw[d.load0 Va0 g,l]);have q:∀(K:Value->World->Prop),zf P ze (.pointer (some ((eaddr v 2 i).add 1))) w2 K=K (.int .i64 n) w2:=λK=>by rw[d.load1 Ui0 g,l]
  try simp(disch:=first|(simp only[push_cast])|omega) only[push_cast,d.iaddr,true_and]
  try simp(disch:=first|(simp only[push_cast])|omega) only[push_cast,d.iaddr,z,q,ecut,true_and]
  refine zh (λc1=>?_) (λc1=>?_)
  ·exact f (by rw[decide_eq_false (show¬1<=n by omega)];simp) _ k
  refine zh (λc2=>?_) (λc2=>?_)
  ·exact f (by rw[decide_eq_false (show¬n<=4 by omega)];simp) _ k
  refine l2Find_spec (d.taken (by omega)) ?_;simp only[push_cast,true_and];refine zh (λc3=>?_) (λc3=>?_)
  ·exact f (by rw[decide_eq_false (show¬M.findD (ds.take i) s<0 by omega)];simp) _ k
  try simp(disch:=first|(simp only[push_cast])|omega) only[push_cast,d.iaddr]
  try simp(disch:=first|(simp only[push_cast])|omega) only[push_cast,q]
  rw[zJ (x:=M.bitT ds i+n) (by omega) (by omega),inc64' (by omega),show M.bitT ds i+n=M.bitT ds (i+1) from o.symm];refine G (by omega) _ _ ⟨rfl,k,λj L=>?_,by omega,by omega⟩;by_cases e:j=i
  ·subst e;unfold M.dclOk;rw[show ds.getD j (M.nada,0)=(s,n) from l,c];simp only[pH,V0,decide_eq_true_eq];exact⟨⟨by omega,by omega⟩,by omega⟩
  ·exact m j (by omega)
 ·have B:i=ds.length:=(by omega);subst B;have:=A w1 p;rw[M.bitT_all];have e:M.declOk ds=decide (M.bits ds<=8):=by
   rw[PA,M.decl_iff,decide_eq_true_eq];exact⟨λh=>h.2.2,λh=>⟨by omega,m,h⟩⟩
  rwa[e] at this
theorem spec_TermMany_spec:∀(t:M.Tm) {w:World} {K:Value->World->Prop} {F:Nat->Prop} {v:Value},TermR F w v t->(∀w',Ext w w'->K (.tuple #[.int .i64 (M.manyM t),.int .i64 (M.lvlM t)]) w')->vcall P jW #[v] w K:=by
 refine M.Tm.ind λt ih w K F v ht R=>?_;apply jc0;obtain⟨ksv,rfl,y⟩:=ht;refine zx λb1 w1 S B a1 O=>?_;have a2:=y.small;have hS:=M.szT_all t;have hD:=M.dpT_all t;have k:M.fits t=true↔M.sizeM t<=20/\M.deepM t<=7:=M.fits_iff;refine vloop_up t.ks.length (λi u w'=> ∃n d:Nat,u=[.int .i64 n,.int .i64 d,.int .i64 i]/\Ext w1 w'/\n<=41/\d<=8/\(1+M.szT t.ks i<=20/\M.dpT t.ks i<=7->n=1+M.szT t.ks i/\d=M.dpT t.ks i)/\(¬(1+M.szT t.ks i<=20/\M.dpT t.ks i<=7)->20<n\/7<d))
  ⟨1,0,rfl,Same.refl _ _,by omega,by omega,λh=>⟨rfl,rfl⟩,λh=>by
   have I:M.szT t.ks 0=0:=rfl;have e2:M.dpT t.ks 0=0:=rfl;omega⟩ ?_
 rintro i _ _ w2 C hi ⟨n,d,rfl,o,c1,c2,c3,H⟩ Q;have J:=O.ext o;have L:=B.trans o;have l:=y.ext L;have V:=M.szT_mono (ks:=t.ks) (i:=i) (j:=t.ks.length) (by omega) (gr _);have W:=M.dpT_mono (ks:=t.ks) (i:=i) (j:=t.ks.length) (by omega) (gr _);have I:IntKind.i64.wrap ((d:Int)+1)=((d+1:Nat):Int):=inc64' (by omega);have m:(20<n\/i=t.ks.length)->∀q,(q=K)->vif (.bool (decide ((20:Int)<n))) (q (.tuple #[.int .i64 21,.int .i64 8]) w2) (vif (.bool (decide ((7:Int)<((d+1:Nat):Int)))) (q (.tuple #[.int .i64 21,.int .i64 8]) w2) (q (.tuple #[.int .i64 (n:Int),.int .i64 ((d+1:Nat):Int)]) w2)):=by
  rintro a0 q rfl;have p:=R w2 L;unfold M.manyM M.lvlM at p;have c:(20<n\/7<d+1)->¬(M.fits t=true):=λh T=>by
   have N:=k.1 T;have:=c3 (by omega);omega
  refine zh (λa=>?_) (λa=>?_)
  ·rw[if_neg (c (by omega)),if_neg (c (by omega))] at p;exact p
  refine zh (λb=>?_) (λb=>?_)
  ·rw[if_neg (c (by omega)),if_neg (c (by omega))] at p;exact p
  ·have E:i=t.ks.length:=(by omega);subst E;have r:M.sizeM t<=20/\M.deepM t<=7:=by
    by_cases h:1+M.szT t.ks t.ks.length<=20/\M.dpT t.ks t.ks.length<=7
    ·have:=c3 h;omega
    ·have:=H h;omega
   have h3:=c3 (by omega);rw[if_pos (k.2 r),if_pos (k.2 r)] at p;rw[show n=M.sizeM t by omega,show d+1=M.deepM t by omega];exact p
 refine zS (λu w'=>u=[]/\w'=w2/\i<t.ks.length/\n<=20) (λC' z=>?_) ?_
 ·simp(disch:=(simp only[push_cast])) only[push_cast,J.ld4,l.len,I];refine zh (λa=>?_) (λa=>?_)
  ·refine zh (λb=>?_) (λb=>?_)
   ·exact z _ _ ⟨rfl,rfl,by omega,by omega⟩
   ·exact m (.inl (by omega)) K rfl
  ·exact m (.inr (by omega)) K rfl
 ·rintro u g w3 ⟨rfl,rfl,U,hn⟩;have X:=M.szT_succ (ks:=t.ks) (i:=i) (by omega);have Y:=M.dpT_succ (ks:=t.ks) (i:=i) (by omega);have Z:=M.szT_mono (ks:=t.ks) (i:=i+1) (j:=t.ks.length) (by omega) (gr _);simp(disch:=first|(simp only[push_cast])|omega) only[push_cast,J.ld4,l.iaddr];refine l.load zp (by omega) λx N=>?_;refine ih _ (M.getD_mem (by omega) _) N λw4 D=>?_;have f:=M.fits_iff (t:=t.ks.getD i default);have G:M.manyM (t.ks.getD i default)<=21:=by
   unfold M.manyM;split
   ·have:=f.1 (by assumption);omega
   ·omega
  have A:M.lvlM (t.ks.getD i default)<=8:=by
   unfold M.lvlM;split
   ·have:=f.1 (by assumption);omega
   ·omega
  have e:M.sizeM (t.ks.getD i default)<=20/\M.deepM (t.ks.getD i default)<=7->M.manyM (t.ks.getD i default)=M.sizeM (t.ks.getD i default)/\M.lvlM (t.ks.getD i default)=M.deepM (t.ks.getD i default):=λh=>by
   unfold M.manyM M.lvlM;rw[if_pos (f.2 h),if_pos (f.2 h)];exact⟨rfl,rfl⟩
  have c: ¬(M.sizeM (t.ks.getD i default)<=20/\M.deepM (t.ks.getD i default)<=7)->M.manyM (t.ks.getD i default)=21/\M.lvlM (t.ks.getD i default)=8:=λh=>by
   unfold M.manyM M.lvlM;rw[if_neg (λx=>h (f.1 x)),if_neg (λx=>h (f.1 x))];exact⟨rfl,rfl⟩
  generalize M.manyM (t.ks.getD i default)=nk at G e c⊢;generalize M.lvlM (t.ks.getD i default)=dk at A e c⊢;simp only[push_cast];refine l1Max_spec ?_
  try simp only[push_cast]
  rw[inc64' (by omega),zJ (x:=(n:Int)+nk) (by omega) (by omega),show(n:Int)+(nk:Int)=((n+nk:Nat):Int) by omega,show max (d:Int) (dk:Int)=((max d dk:Nat):Int) by omega];refine Q (by omega) _ _ ⟨n+nk,max d dk,rfl,o.trans D,by omega,by omega,λh=>?_,λh=>?_⟩
  ·have:=c3 (by omega);have:=e (by omega);omega
  ·by_cases r:M.sizeM (t.ks.getD i default)<=20/\M.deepM (t.ks.getD i default)<=7
   ·have h5:=e r;by_cases s:1+M.szT t.ks i<=20/\M.dpT t.ks i<=7
    ·have:=c3 s;omega
    ·have:=H s;omega
   ·have:=c r;omega
end
section
variable {w:World} {K:Value->World->Prop} {F G:Nat->Prop}
theorem l2Arity_spec {o:Int} (h:K (.int .i64 (M.arity o)) w):vcall P J2 #[.int .i64 o] w K:=by
 apply k40;have f:∀c,M.arity o=c->K (.int .i64 c) w:=λc e=>e▸h;refine zS (λu w'=>u=[.bool (decide (o=20\/o=21\/o=24))]/\w'=w) (λC d=>?_) ?_
 ·simp only[push_cast];refine zh (λa=>?_) (λa=>?_)
  ·exact d _ _ ⟨by rw[decide_eq_true a,decide_eq_true (.inl a)],rfl⟩
  refine zh (λb=>?_) (λb=>?_)
  ·exact d _ _ ⟨by rw[decide_eq_true b,decide_eq_true (.inr (.inl b))],rfl⟩
  ·refine d _ _ ⟨?_,rfl⟩;by_cases c:o=24
   ·rw[decide_eq_true c,decide_eq_true (.inr (.inr c))]
   ·rw[decide_eq_false c,decide_eq_false (by omega)]
 ·rintro u g w1 ⟨rfl,rfl⟩;simp only[push_cast]
  repeat' first
   |exact f _ (by
    unfold M.arity;repeat' split
    all_goals omega)
   |refine zh (λ_=>?_) (λ_=>?_)
theorem Yz0 {v:Value} {t:M.Tm} (A:TermR F w v t) (p:∀w',Ext w w'->K (.bool (M.formed t)) w'):vcall P J0 #[v] w K:=by
 apply k20;obtain⟨ksv,rfl,o⟩:=A;refine zx λb1 w1 y j z l=>?_;have q:=p _ j;have f:M.plainM t=false->K (.bool false) w1:=λh=>by
  unfold M.formed at q;rwa[h,pj] at q
 unfold M.plainM at f;refine zS (λu w'=>u=[]/\w'=w1/\(decide (t.op=21)||decide (t.s=M.nada))=true) (λC m=>?_) ?_
 ·simp(disch:=(simp only[push_cast])) only[push_cast,l.ld0,l.ld3];refine zh (λa=>?_) (λa=>?_)
  ·refine zh (λb=>?_) (λb=>?_)
   ·exact f (by rw[decide_eq_false a,show decide (t.s=M.nada)=false from decide_eq_false b];simp)
   ·exact m _ _ ⟨rfl,rfl,by rw[show decide (t.s=M.nada)=true from decide_eq_true (GG.1 b)];simp⟩
  ·exact m _ _ ⟨rfl,rfl,by rw[decide_eq_true (GG.1 a)];simp⟩
 rintro u g w2 ⟨rfl,rfl,r⟩;rw[r,Pw] at f;refine zS (λu w'=>u=[]/\w'=w2/\(decide (t.op=20)||decide (t.op=22)||(decide (t.a=0)&&decide (t.b=0)))=true) (λC m=>?_) ?_
 ·simp(disch:=(simp only[push_cast])) only[push_cast,l.ld0,l.ld1,l.ld2];refine zh (λa=>?_) (λa=>?_)
  ·refine zh (λb=>?_) (λb=>?_)
   ·refine zh (λc=>?_) (λc=>?_)
    ·exact f (by rw[decide_eq_false a,decide_eq_false b,decide_eq_false c];simp)
    refine zh (λd=>?_) (λd=>?_)
    ·exact f (by rw[decide_eq_false a,decide_eq_false b,decide_eq_false d];simp)
    ·exact m _ _ ⟨rfl,rfl,by rw[decide_eq_true (GG.1 c),decide_eq_true (GG.1 d)];simp⟩
   ·exact m _ _ ⟨rfl,rfl,by rw[decide_eq_true (GG.1 b)];simp⟩
  ·exact m _ _ ⟨rfl,rfl,by rw[decide_eq_true (GG.1 a)];simp⟩
 rintro u g B ⟨rfl,rfl,hm⟩;refine zr λD k _=>?_;have n:=l.ext k;have i:=o.ext (j.trans k);simp(disch:=(simp only[push_cast])) only[push_cast,n.ld0,n.ld4,i.len,true_and];refine l2Arity_spec ?_;simp(disch:=(simp only[push_cast])) only[push_cast,n.ld4,i.len,true_and,and_self];have:=p _ (j.trans k);have e:M.formed t=decide ((t.ks.length:Int)=M.arity t.op):=by
  unfold M.formed M.plainM;rw[hm,r];simp only[Pw];by_cases h:M.arity t.op=t.ks.length
  ·rw[decide_eq_true h,decide_eq_true h.symm]
  ·rw[decide_eq_false h,decide_eq_false (λx=>h x.symm)]
 rwa[e] at this
theorem l2One_spec {v:Value} {t:M.Tm} {a:Int} (q:TermR F w v t) (s: -1<=a/\a<=4) (m:∀w',Ext w w'->K (.int .i64 (M.oneM t a)) w'):vcall P Vd #[v,.int .i64 a] w K:=by
 apply YN0;obtain⟨ksv,rfl,o⟩:=q;refine zx λb1 w1 n l p j=>?_;have k:∀c,M.oneM t a=c->K (.int .i64 c) w1:=λc e=>e▸m _ l;unfold M.oneM at k;refine zS (λu w'=>u=[.bool (decide (t.op=25/\a=0))]/\w'=w1) (λC i=>?_) ?_
 ·simp(disch:=(simp only[push_cast])) only[push_cast,j.ld0];refine zh (λb=>?_) (λb=>?_)
  ·refine i _ _ ⟨?_,rfl⟩;simp only[b,true_and]
  ·exact i _ _ ⟨by rw[decide_eq_false (λh=>b h.1)],rfl⟩
 rintro u g w2 ⟨rfl,rfl⟩;simp only[push_cast];refine zh (λb=>?_) (λb=>?_)
 ·exact k _ (by rw[if_pos b.1,if_pos b.2])
 refine zS (λu w'=>u=[.bool (decide (t.op=25\/a<1))]/\w'=w2) (λC i=>?_) ?_
 ·simp(disch:=(simp only[push_cast])) only[push_cast,j.ld0];refine zh (λc=>?_) (λc=>?_)
  ·exact i _ _ ⟨by rw[decide_eq_true (.inl c)],rfl⟩
  ·refine i _ _ ⟨?_,rfl⟩;simp only[c,false_or]
 rintro u g r ⟨rfl,rfl⟩;simp only[push_cast];refine zh (λc=>?_) (λc=>?_)
 ·exact k _ (by
   repeat' split
   all_goals omega)
 simp(disch:=(simp only[push_cast])) only[push_cast,j.ld0];refine zh (λd=>?_) (λd=>?_)
 ·refine zS (λu w'=>u=[.bool (decide (0<=t.b/\t.b<=t.a/\t.a<a))]/\w'=r) (λC i=>?_) ?_
  ·simp(disch:=(simp only[push_cast])) only[push_cast,j.ld1,j.ld2];refine zh (λe=>?_) (λe=>?_)
   ·refine zh (λf=>?_) (λf=>?_)
    ·refine i _ _ ⟨?_,rfl⟩;simp only[e,f,true_and]
    ·exact i _ _ ⟨by rw[decide_eq_false (λh=>f h.2.1)],rfl⟩
   ·exact i _ _ ⟨by rw[decide_eq_false (λh=>e h.1)],rfl⟩
  rintro u g y ⟨rfl,rfl⟩;simp only[push_cast];refine zh (λe=>?_) (λe=>?_)
  ·simp(disch:=(simp only[push_cast])) only[push_cast,j.ld1,j.ld2];rw[zJ (x:=t.a-t.b) (by omega) (by omega),zJ (by omega) (by omega)];exact k _ (by rw[if_neg (by omega),if_neg (by omega),if_pos d,if_pos e])
  ·exact k _ (by rw[if_neg (by omega),if_neg (by omega),if_pos d,if_neg e])
 ·exact k _ (by rw[if_neg (by omega),if_neg (by omega),if_neg d])
theorem l2Both_spec {o a b:Int} (l: -1<=a/\a<=4) (k: -1<=b/\b<=4) (j:K (.int .i64 (M.bothM o a b)) w):vcall P K5 #[.int .i64 o,.int .i64 a,.int .i64 b] w K:=by
 apply ZP0;have h:∀c,M.bothM o a b=c->K (.int .i64 c) w:=λc e=>e▸j;unfold M.bothM at h;refine zS (λu w'=>u=[.bool (decide (o=26\/o=27))]/\w'=w) (λC f=>?_) ?_
 ·simp only[push_cast];refine zh (λc=>?_) (λc=>?_)
  ·exact f _ _ ⟨by rw[decide_eq_true (.inl c)],rfl⟩
  ·refine f _ _ ⟨?_,rfl⟩;simp only[c,false_or]
 rintro u g w2 ⟨rfl,rfl⟩;simp only[push_cast];refine zh (λc=>?_) (λc=>?_)
 ·repeat' first
   |exact h _ (by
    repeat' split
    all_goals omega)
   |refine zh (λ_=>?_) (λ_=>?_)
 refine zS (λu w'=>u=[.bool (decide (a<1\/b<1))]/\w'=w2) (λC f=>?_) ?_
 ·try simp only[push_cast]
  refine zh (λd=>?_) (λd=>?_)
  ·exact f _ _ ⟨by rw[decide_eq_true (.inl d)],rfl⟩
  ·refine f _ _ ⟨?_,rfl⟩;simp only[d,false_or]
 rintro u g m ⟨rfl,rfl⟩;have i:IntKind.i64.wrap (a+b)=a+b:=zJ (by omega) (by omega);simp only[push_cast,i]
 repeat' first
  |exact h _ (by
   repeat' split
   all_goals omega)
  |refine zh (λ_=>?_) (λ_=>?_)
theorem l2Sort_spec:∀(t:M.Tm) {w:World} {K:Value->World->Prop} {F G:Nat->Prop} {dv v:Value} {ds:List M.Dcl},DclsR F w dv ds->M.declOk ds=true->TermR G w v t->(∀w',Ext w w'->K (.int .i64 (M.sortM ds t)) w')->vcall P kB #[dv,v] w K:=by
 refine M.Tm.ind λt U w K F G dv v ds O f ht W=>?_;apply ZM0;obtain⟨ksv,rfl,u⟩:=ht;refine zx λb1 w1 X E Z V=>?_;have m:∀c w',M.sortM ds t=c->Ext w w'->K (.int .i64 c) w':=λc w' e he=>e▸W _ he;rw[V.ldAgg (t:=za) zp];refine Yz0 (F:=G) (t:=t) ⟨ksv,rfl,u.ext E⟩ λw2 H=>?_;have o:=E.trans H;have y:=V.ext H;simp only[push_cast];refine zK (λa=>?_) (λa=>?_)
 ·exact m _ _ (M.sort_bad (by rw[Pt];simpa using a)) o
 have A:M.formed t=true:=by simpa using a
 have j:=(M.formed_iff.1 A).1;have q:=O.ext o;simp(disch:=(simp only[push_cast])) only[push_cast,y.ld0];refine zh (λd=>?_) (λd=>?_)
 ·have J:t.ks.length=0:=by rw[d] at j;simp[M.arity] at j;omega
  have hs:=M.sort_leaf (ds:=ds) A J;simp(disch:=(simp only[push_cast])) only[push_cast,y.ld1,y.ld2];refine spec_VecOk_spec λw3 k=>?_;have C:=y.ext k;refine zK (λb=>?_) (λb=>?_)
  ·simp(disch:=(simp only[push_cast])) only[push_cast,C.ld1];exact m _ _ (by rw[hs];unfold M.sortK;rw[if_pos d,if_pos b]) (o.trans k)
  ·exact m _ _ (by rw[hs];unfold M.sortK;rw[if_pos d,b];rfl) (o.trans k)
 refine zh (λl=>?_) (λl=>?_)
 ·have J:t.ks.length=0:=by rw[l] at j;simp[M.arity] at j;omega
  have hs:=M.sort_leaf (ds:=ds) A J;have Y:=M.findD_lt ds t.s;simp(disch:=(simp only[push_cast])) only[push_cast,y.ld3];refine l2Find_spec q ?_
  try simp only[push_cast]
  refine zh (λb=>?_) (λb=>?_)
  ·exact m _ _ (by rw[hs];unfold M.sortK;rw[if_neg d,if_pos l,if_pos b]) o
  ·try simp(disch:=first|(simp only[push_cast])|omega) only[push_cast,q.iaddr]
   try simp(disch:=first|(simp only[push_cast])|omega) only[push_cast,q.load1]
   exact m _ _ (by rw[hs];unfold M.sortK;rw[if_neg d,if_pos l,if_neg b]) o
 refine zh (λD=>?_) (λD=>?_)
 ·have J:t.ks.length=0:=by rw[D] at j;simp[M.arity] at j;omega
  have hs:=M.sort_leaf (ds:=ds) A J;exact m _ _ (by rw[hs];unfold M.sortK;rw[if_neg d,if_neg l,if_pos (by omega)];rfl) o
 have hlen:t.ks.length=1\/t.ks.length=2\/t.ks.length=3:=by
  have h0:M.arity t.op≠0:=λh=>by have:=M.arity_zero h;omega
  have N:M.arity t.op<=3:=by
   unfold M.arity
   repeat' split
   all_goals omega
  omega
 have x:=u.ext o;simp(disch:=first|(simp only[push_cast])|omega) only[push_cast,y.ld4,x.iaddr];refine x.load zp (by omega) λx0 R=>?_;refine U (M.kid t 0) (M.kid_mem (by omega)) q f R λw3 k=>?_;have C:=y.ext k;have p:=o.trans k;have g:=u.ext p;have L:=M.sort_range f (M.kid t 0);simp(disch:=first|(simp only[push_cast])|omega) only[push_cast,C.ld4,g.len];refine zh (λl1=>?_) (λl1=>?_)
 ·rw[C.ldAgg (t:=za) zp];refine l2One_spec (F:=G) (t:=t) ⟨ksv,rfl,g⟩ L λw4 r=>?_;exact m _ _ (M.sort_one f A (by omega)) (p.trans r)
 simp(disch:=first|(simp only[push_cast])|omega) only[push_cast,C.ld4,g.iaddr];refine g.load zp (by omega) λx1 S=>?_;refine U (M.kid t 1) (M.kid_mem (by omega)) (O.ext p) f S λw4 r=>?_;have N:=C.ext r;have i:=p.trans r;have n:=u.ext i;have Q:=M.sort_range f (M.kid t 1);simp(disch:=first|(simp only[push_cast])|omega) only[push_cast,N.ld4,N.ld0,n.len];refine zh (λl2=>?_) (λl2=>?_)
 ·refine l2Both_spec L Q ?_;exact m _ _ (M.sort_two f A (by omega)) i
 have B:=M.sort_three (ds:=ds) A (by omega);refine zh (λz=>?_) (λz=>?_)
 ·exact m _ _ (by rw[B,if_pos (.inl z)]) i
 simp(disch:=first|(simp only[push_cast])|omega) only[push_cast,N.ld4,n.iaddr];refine n.load zp (by omega) λx2 T=>?_;refine U (M.kid t 2) (M.kid_mem (by omega)) (O.ext i) f T λw5 I=>?_;simp only[push_cast];refine zh (λz2=>?_) (λz2=>?_)
 ·exact m _ _ (by rw[B,if_pos (.inr z2)]) (i.trans I)
 ·exact m _ _ (by rw[B,if_neg (λh=>h.elim z z2)]) (i.trans I)
def qg0 (ds:List M.Dcl):Prop:=∀i,i<ds.length->(ds.getD i Xv0).1.size<=9223372036854775807
theorem spec_TermSort_spec {dv v:Value} {ds:List M.Dcl} {t:M.Tm} (o:qg0 ds) (q:DclsR F w dv ds) (x:TermR G w v t) (p:∀w',Ext w w'->K (.int .i64 (M.tsort ds t)) w'):vcall P jV #[dv,v] w K:=by
 apply jb0;obtain⟨cs,rfl,e⟩:=x.cells;refine zx λb1 w1 s g u l=>?_;rw[l.ldAgg (t:=za) (by rw[yq e];exact zp)];refine spec_TermMany_spec t (e.ext g).term λw2 i=>?_;simp only[push_cast];have f:=g.trans i;refine spec_DeclOk_spec (q.ext f) o λy j=>?_;have d:=f.trans j;have k:=p y d;unfold M.tsort at k;simp only[push_cast];refine zK (λa=>?_) (λa=>?_)
 ·rwa[if_neg (λh=>by rw[h.2] at a;cases a)] at k
 rw[Gz] at a;refine zh (λb=>?_) (λb=>?_)
 ·rw[if_neg (λh=>by
   have l:=M.fits_iff.1 h.1;unfold M.manyM at b;rw[if_pos h.1] at b;omega)] at k
  exact k
 have n:M.fits t=true:=by
  by_cases h:M.fits t=true
  ·exact h
  ·unfold M.manyM at b;rw[if_neg h] at b;omega
 refine zh (λc=>?_) (λc=>?_)
 ·unfold M.lvlM at c;rw[if_pos n] at c;have:=M.fits_iff.1 n;omega
 have r:=(l.ext i).ext j;rw[r.ldAgg (t:=za) (by rw[yq e];exact zp)];refine l2Sort_spec t (q.ext d) a (e.ext d).term λz m=>?_;have:=p z (d.trans m);unfold M.tsort at this;rwa[if_pos ⟨n,a⟩] at this
end
section
variable {w:World} {K:Value->World->Prop} {F F':Nat->Prop}
def Bytes (F:Nat->Prop) (w:World) (v:Value) (xs:List Nat):Prop:=Vals F w v (xs.map λx=>Value.int .u8 (x:Nat))/\∀x,x∈xs->x<256
theorem Bytes.same {S:Nat->Prop} {w':World} {v:Value} {xs:List Nat} (h:Bytes F w v xs) (hw:Same S w w') (hs:∀b,F b->b<w.heap.size->¬S b):Bytes F w' v xs:=⟨h.1.same hw hs,h.2⟩
theorem Bytes.ext {w':World} {v:Value} {xs:List Nat} (h:Bytes F w v xs) (hw:Ext w w'):Bytes F w' v xs:=⟨h.1.ext hw,h.2⟩
theorem Bytes.load {v:Value} {xs:List Nat} (h:Bytes F w v xs) {e:TypeId} (he:oneB P e=true) {i:Nat} (a:i<xs.length):zf P e (.pointer (some (eaddr v 1 i))) w K=K (.int .u8 (xs.getD i 0:Nat)) w:=by
 rw[Vals.load h.1 he (by simpa using a)];simp[k6,a]
theorem Bytes.len {w':World} {v:Value} {xs:List Nat} (h:Bytes F w v xs) {t:TypeId} (a:isSl P t=true) (ty:TypeId):vbi P .len [t] ty [v] w' K=K (.int .i64 xs.length) w':=by
 have:=Vals.len (K:=K) (w':=w') h.1 a ty;rwa[X0] at this
theorem Bytes.iaddr {w':World} {v:Value} {xs:List Nat} (h:Bytes F w v xs) {t:TypeId} (c:elB P t 1=true) {kd:IntKind} {i:Int} (a:0<=i) (b:i<xs.length):
  zj P t v (.int kd i) w' K=K (.pointer (some (eaddr v 1 i.toNat))) w':=Vals.iaddr h.1 c a (by simpa using b)
structure RdR (F:Nat->Prop) (w:World) (b:Nat) (v:Value) (xs:List Nat) (p:Nat):Prop where
 blk:Blk w b [v,.int .i64 p] ym
 bytes:Bytes F w v xs
 apart: ¬F b
 few:xs.length<=2000
theorem RdR.same {S:Nat->Prop} {w':World} {b p:Nat} {v:Value} {xs:List Nat} (h:RdR F w b v xs p) (hw:Same S w w') (a: ¬S b) (hs:∀b,F b->b<w.heap.size->¬S b):RdR F w' b v xs p:=
 ⟨h.blk.same hw a,h.bytes.same hw hs,h.apart,h.few⟩
theorem RdR.ext {w':World} {b p:Nat} {v:Value} {xs:List Nat} (h:RdR F w b v xs p) (hw:Ext w w'):RdR F w' b v xs p:=h.same hw id λ_ _ _ h=>h
theorem l12Open_spec {v:Value} {xs:List Nat} (n:Bytes F w v xs) (hF:∀b,F b->b<w.heap.size)
  (C:∀w' b v' ys,Ext w w'->RdR F w' b v' ys 0->w.heap.size<=b->K (.pointer (some ⟨b,0,none⟩)) w'):vcall P Yw #[v] w K:=by
 apply k50;simp(disch:=(simp only[push_cast])) only[push_cast,n.len];have fin:∀(v':Value) (ys:List Nat),Bytes F w v' ys->ys.length<=2000->zE P ym [(0,v')] w λt9 f=>yX P ym t9 f λt10 g=>K t10 g:=λv' ys j G=>by
  refine yJ0 X10 (us:=[[v']]) (by simp[j.1.cells1]) rfl ?_;refine jK λb w1 M m I B=>?_;exact C w1 b v' ys m ⟨B,j.ext m,λh=>by have:=hF b h;omega,G⟩ (by omega)
 refine zh (λa=>?_) (λa=>fin v xs n (by omega));have k:yQ P yh v none (some (.int .i64 (2000:Nat))) none w λt7 r=>zE P ym [(0,t7)] r λt9 f=>yX P ym t9 f λt10 g=>K t10 g:=by
  obtain⟨a0,c0,rfl,D,q,d⟩:=n.1.shape;rw[Sl.cut n.1 (λa l c e=>?_) VL0 (by simp;omega)]
  ·refine fin _ (xs.take 2000) ⟨⟨⟨a0,c0,?_,?_,q,λH=>?_⟩,λy j=>?_⟩,λy j=>n.2 y (gZ j)⟩ (by simp;omega)
   ·simp only[cutV,X0,gi];rw[gJ (by omega)]
   ·simp at D⊢;omega
   ·obtain⟨b,o,p,t,z,A⟩:=d (λe=>by simp at e;subst e;simp at a);refine⟨b,o,p,t,z,λi E=>?_⟩;simp only[X0,gi] at E;have:=A i (by simp;omega);have e:(((xs.take 2000).map λx=>Value.int .u8 (x:Nat)).map λx=>[x]).getD i []=((xs.map λx=>Value.int .u8 (x:Nat)).map λx=>[x]).getD i []:=by
     simp only[k6,Gn,pN];rw[if_pos (by omega)]
    rw[e];exact this
   ·obtain⟨u,_,rfl⟩:=gm.1 j;rfl
  ·injection e with s J L
   obtain⟨b,o,p,_⟩:=d (λe=>by simp at e;subst e;simp at a);exact⟨b,o,by rw[p] at s;exact(gh s).symm⟩
 exact k
theorem pick_spec {b p : Nat} {v : Value} {xs : List Nat} {n : Int} (h : RdR F w b v xs p) (hn : n <= 1099511627776) (hp : p < 1099511627776)
    (hK : ∀ w' (k : Nat), Same (· = b) w w' -> w'.heap.size = w.heap.size -> RdR F w' b v xs (p + 1) -> (1 <= n -> (k : Int) < n) -> (n < 1 -> k = 0) -> K (.int .i64 k) w') : vcall P zN #[.pointer (some ⟨b, 0, none⟩), .int .i64 n] w K := by
  apply x30; unfold Jv
  have hfew := h.few
  simp (disch := (simp only [push_cast]; done)) only [push_cast, h.blk.ld1]
  have hinc : IntKind.i64.wrap ((p : Int) + 1) = ((p + 1 : Nat) : Int) := by rw [zJ (by omega) (by omega)]; omega
  rw [hinc]
  refine h.blk.st rfl rfl YC rfl λw1 hs1 hz1 hB1 => ?_
  have B1 : Blk w1 b [v, .int .i64 (p + 1 : Nat)] ym := hB1
  have hR : RdR F w1 b v xs (p + 1) := ⟨B1, h.bytes.same hs1 λx hx _ e => h.apart (e ▸ hx), h.apart, h.few⟩
  have hx := hR.bytes
  refine zS (λ_ w' => w' = w1 /\ 1 <= n /\ xs.length ≠ 0) ?_ ?_
  · intro J hJ
    refine zh (λa => ?_) (λa => ?_)
    · exact hK w1 0 hs1 hz1 hR (λh => by omega) λ_ => rfl
    · simp (disch := (simp only [push_cast]; done)) only [push_cast, B1.ld0, hx.len]
      refine zh (λa2 => ?_) (λa2 => ?_)
      · exact hK w1 0 hs1 hz1 hR (λh => by omega) λ_ => rfl
      · exact hJ _ _ ⟨rfl, by omega, by omega⟩
  rintro _ _ _ ⟨rfl, h1, hne⟩
  simp (disch := (simp only [push_cast]; done)) only [B1.ld0, B1.ld1, XD0, Vw, j10, xR, gQ, Wd, hx.len]
  rw [show ((p + 1 : Nat) : Int) - 1 = (p : Int) from by omega, zJ (by omega) (by omega)]
  simp only [kZ0]
  have hget : ∀ i, i < xs.length -> xs.getD i 0 < 256 := λi hi => hx.2 _ (by rw [k6, K3 hi]; exact Gm hi)
  have hmod : ∀ x : Nat, ((x : Int).tmod n) = ((x % n.toNat : Nat) : Int) /\ ((x % n.toNat : Nat) : Int) < n := λx => by
    obtain ⟨m, rfl⟩ : ∃ m : Nat, n = m := ⟨n.toNat, by omega⟩
    rw [gl]
    exact ⟨rfl, by have := Pq x (show 0 < m by omega); omega⟩
  refine zh (λa => ?_) (λa => ?_)
  · simp (disch := first | (simp only [push_cast]; done) | omega) only [B1.ld0, hx.iaddr, gl, hx.load, ZA XM0 kM0]
    have hb := hget p (by omega)
    rw [zJ (by omega) (by omega), We (by omega)]
    obtain ⟨m1, m2⟩ := hmod (xs.getD p 0)
    rw [m1]
    exact hK _ _ hs1 hz1 hR (λ_ => m2) λh => by omega
  · refine zr λw2 he2 hheap => ?_
    have B2 := B1.ext he2
    have hx2 := hx.ext he2
    have hl0 : (xs.length : Int) ≠ 0 := by omega
    have e1 : ((p : Int).tmod xs.length) = ((p % xs.length : Nat) : Int) := by rw [PJ (by omega)]; rfl
    have l1 : p % xs.length < xs.length := Pq _ (by omega)
    have e2 : IntKind.i64.wrap ((p : Int) * 7) = ((p * 7 : Nat) : Int) := by rw [zJ (by omega) (by omega)]; omega
    have e3 : IntKind.i64.wrap (((p * 7 : Nat) : Int) + 3) = ((p * 7 + 3 : Nat) : Int) := by rw [zJ (by omega) (by omega)]; omega
    have e4 : (((p * 7 + 3 : Nat) : Int).tmod xs.length) = (((p * 7 + 3) % xs.length : Nat) : Int) := by rw [PJ (by omega)]; rfl
    have l2 : (p * 7 + 3) % xs.length < xs.length := Pq _ (by omega)
    have b1 := hget _ l1
    have b2 := hget _ l2
    generalize hx1 : xs.getD (p % xs.length) 0 = x1 at b1
    generalize hx2' : xs.getD ((p * 7 + 3) % xs.length) 0 = x2 at b2
    have e5 : IntKind.i64.wrap ((x1 : Nat) : Int) = ((x1 : Nat) : Int) := zJ (by omega) (by omega)
    have e6 : IntKind.i64.wrap ((x2 : Nat) : Int) = ((x2 : Nat) : Int) := zJ (by omega) (by omega)
    have e7 : IntKind.i64.wrap (((x1 : Nat) : Int) * 131) = ((x1 * 131 : Nat) : Int) := by rw [zJ (by omega) (by omega)]; omega
    have e8 : IntKind.i64.wrap (((x2 : Nat) : Int) * 1117) = ((x2 * 1117 : Nat) : Int) := by rw [zJ (by omega) (by omega)]; omega
    have e9 : IntKind.i64.wrap (((x1 * 131 : Nat) : Int) + ((x2 * 1117 : Nat) : Int)) = ((x1 * 131 + x2 * 1117 : Nat) : Int) := by rw [zJ (by omega) (by omega)]; omega
    have e10 : IntKind.i64.wrap ((p : Int) * 29) = ((p * 29 : Nat) : Int) := by rw [zJ (by omega) (by omega)]; omega
    have e11 : IntKind.i64.wrap (((x1 * 131 + x2 * 1117 : Nat) : Int) + ((p * 29 : Nat) : Int)) = ((x1 * 131 + x2 * 1117 + p * 29 : Nat) : Int) := by rw [zJ (by omega) (by omega)]; omega
    obtain ⟨Q, hQ⟩ : ∃ Q, Q = p / xs.length := ⟨_, rfl⟩
    have hq : Q <= p := by rw [hQ]; exact pQ _ _
    have e12 : IntKind.i64.wrap ((p : Int).tdiv xs.length) = ((Q : Nat) : Int) := by
      have : (p : Int).tdiv xs.length = (Q : Int) := by rw [hQ]; rfl
      rw [this]; exact zJ (by omega) (by omega)
    have e13 : IntKind.i64.wrap (((Q : Nat) : Int) * 53) = ((Q * 53 : Nat) : Int) := by rw [zJ (by omega) (by omega)]; omega
    have e14 : IntKind.i64.wrap (((x1 * 131 + x2 * 1117 + p * 29 : Nat) : Int) + ((Q * 53 : Nat) : Int)) = ((x1 * 131 + x2 * 1117 + p * 29 + Q * 53 : Nat) : Int) := by rw [zJ (by omega) (by omega)]; omega
    simp (disch := first | (simp only [push_cast]; done) | omega) only [B2.ld0, XD0, Vw, xR, gQ, true_and, hx2.len, We hl0, kY0 hl0, XK0, qi0, e1, e2, e3, e4, e12, hx2.iaddr, gl, hx2.load, hx1, hx2', ZA XM0 kM0, e5, e6, e7, e8, e9, e10, e11, e13, e14]
    have hX : x1 * 131 + x2 * 1117 + p * 29 + Q * 53 < 9223372036854775808 := by omega
    generalize x1 * 131 + x2 * 1117 + p * 29 + Q * 53 = X at hX ⊢
    have e15 : IntKind.i64.wrap ((X : Int).tdiv 64) = ((X / 64 : Nat) : Int) := by
      have : (X : Int).tdiv 64 = ((X / 64 : Nat) : Int) := rfl
      rw [this]; exact zJ (by omega) (by omega)
    rw [kY0 (by omega), e15, Q90 hX (by omega), We (by omega)]
    obtain ⟨m1, m2⟩ := hmod (X ^^^ X / 64)
    rw [m1]
    exact hK _ _ (hs1.trans (Same.of_ext he2)) (by rw [hheap]; exact hz1) (hR.ext he2) (λ_ => m2) λh => by omega
theorem num_spec {b p:Nat} {v vs:Value} {xs:List Nat} {ns:List Int} (h:RdR F w b v xs p) (g:Ints F' w vs ns) (d:ns≠[]) (o:ns.length<=1000) (n:p<1099511627776) (c:∀x,F' x->x≠b)
  (j:∀w' m,Same (· =b) w w'->w'.heap.size=w.heap.size->RdR F w' b v xs (p+1)->m∈ns->K (.int .i64 m) w'):vcall P x7 #[.pointer (some ⟨b,0,none⟩),vs] w K:=by
 apply q20;have f:=gG.2 d;simp(disch:=(simp only[push_cast])) only[push_cast,g.len];refine pick_spec h (by omega) n λw1 k hs r l i _=>?_;have s:=i (by omega);have a:=g.same hs λx q _ e=>c x q e;simp(disch:=first|(simp only[push_cast])|omega) only[push_cast,a.iaddr,a.load];exact j w1 _ hs r l (M.getD_mem (by omega) _)
end
section
variable {w:World} {K:Value->World->Prop} {F D:Nat->Prop}
@[push_cast] theorem bd_Decl (s:ByteArray) (n:Int):zE P zA [(0,.string s),(1,.int .i64 n)] w K=K (.agg ⟨[.string s,.int .i64 n]⟩) w:=yo Xz0 (us:=[[.string s],[.int .i64 n]]) rfl rfl
abbrev OwnD (w:World) (v:Value) (ds:List M.Dcl):Prop:=Own P 0 2 zi w v (ds.map λd=>[.string d.1,.int .i64 d.2])
def Dok (ds:List M.Dcl):Prop:=ds.length<=5/\∀i,i<ds.length->1<=(ds.getD i Xv0).2/\(ds.getD i Xv0).2<=4/\(ds.getD i Xv0).1.size<=1
theorem OwnD.dcls {v:Value} {ds:List M.Dcl} (h:OwnD w v ds):DclsR (λb=>v.ownBlock=some b) w v ds:=Own.sl h
@[push_cast] theorem bd_T3 (o a b:Int):zE P za [(0,.int .i64 o),(1,.int .i64 a),(2,.int .i64 b)] w K=K (.agg ⟨[.int .i64 o,.int .i64 a,.int .i64 b,.string ⟨#[]⟩,.slice none 0 0]⟩) w:=yo Zr (us:=[[.int .i64 o],[.int .i64 a],[.int .i64 b]]) rfl rfl
@[push_cast] theorem UE0 (o:Int):zE P za [(0,.int .i64 o)] w K=K (.agg ⟨[.int .i64 o,.int .i64 0,.int .i64 0,.string ⟨#[]⟩,.slice none 0 0]⟩) w:=yo Zr (us:=[[.int .i64 o]]) rfl rfl
@[push_cast] theorem Ki0 (o:Int) (s:ByteArray):zE P za [(0,.int .i64 o),(3,.string s)] w K=K (.agg ⟨[.int .i64 o,.int .i64 0,.int .i64 0,.string s,.slice none 0 0]⟩) w:=yo Zr (us:=[[.int .i64 o],[.string s]]) rfl rfl
@[push_cast] theorem WP0 (o:Int) (a:Option Addr) (l c:Nat):zE P za [(0,.int .i64 o),(4,.slice a l c)] w K=K (.agg ⟨[.int .i64 o,.int .i64 0,.int .i64 0,.string ⟨#[]⟩,.slice a l c]⟩) w:=yo Zr (us:=[[.int .i64 o],[.slice a l c]]) rfl rfl
@[push_cast] theorem bd_Tc (o x y:Int) (a:Option Addr) (l c:Nat):zE P za [(0,.int .i64 o),(1,.int .i64 x),(2,.int .i64 y),(4,.slice a l c)] w K=K (.agg ⟨[.int .i64 o,.int .i64 x,.int .i64 y,.string ⟨#[]⟩,.slice a l c]⟩) w:=yo Zr (us:=[[.int .i64 o],[.int .i64 x],[.int .i64 y],[.slice a l c]]) rfl rfl
theorem ZB {b:Nat} {cs cs':List Value} {t:TypeId} {G:Nat->Prop} {t':M.Tm} (h:Blk w b cs t) (j:cs.length=5) (c:TmR G w cs' t') (g:∀x,G x->x≠b) (i:∀w',Same (· =b) w w'->w'.heap.size=w.heap.size->TermR G w' (.agg ⟨cs'⟩) t'->K (.agg ⟨cs'⟩) w'):
  zn P za (.pointer (some ⟨b,0,none⟩)) (.agg ⟨cs'⟩) w λ_ w1=>vlv P za (.pointer (some ⟨b,0,none⟩)) w1 λr w2=>K r w2:=by
 refine stTerm h j c λw' a d f=>?_;rw[f.lv (by rw[yq c];exact zp)];exact i w' a d (c.same a λx k _ e=>g x k e).term
theorem UP {G:Nat->Prop} (o a b:Int) (s:ByteArray):TmR G w [.int .i64 o,.int .i64 a,.int .i64 b,.string s,.slice none 0 0] (.mk o a b s []):=TmR.of (t:= .mk o a b s []) TmsR.nil
abbrev QF0 (K:Value->World->Prop) (F:Nat->Prop) (w:World) (b p c:Nat) (v:Value) (xs:List Nat):Prop:=∀w' p' tv t,Same (· =b) w w'->RdR F w' b v xs p'->p'<=p+c->TermR (λx=>w.heap.size<=x) w' tv t->t.ks.length<=3->K tv w'
theorem same_new {b b2:Nat} {w w1 w2:World} (h:Same (· =b) w w1) (a:Same (· =b2) w1 w2) (f:w.heap.size<=b2):Same (· =b) w w2:=
 ⟨a.os.trans h.os,a.tape.trans h.tape,a.output.trans h.output,Ga h.size a.size,λx d c=>by
  rw[a.block x (gI d h.size) (λe=>by subst e;omega)];exact h.block x d c⟩
theorem RdR.new {b b2 p:Nat} {v:Value} {xs:List Nat} {w1:World} (h:RdR F w b v xs p) (hs:Same (· =b2) w w1) (a:b≠b2) (hF:∀x,F x->x≠b2):RdR F w1 b v xs p:=h.same hs a λx c _ e=>hF x c e
theorem l2Leafy_spec {b p:Nat} {v dv:Value} {xs:List Nat} {ds:List M.Dcl} {sort:Int} (h:RdR F w b v xs p) (hF:∀x,F x->x<w.heap.size) (hd:DclsR D w dv ds) (hD:∀x,D x->x≠b) (a0:Dok ds) (a8:0<=sort) (E:sort<=4) (hp:p+100<1099511627776)
  (hK:QF0 K F w b p 100 v xs):vcall P jC #[.pointer (some ⟨b,0,none⟩),dv,.int .i64 sort] w K:=by
 apply k30;have lb:=h.blk.lt;refine zD zH λb1 w1 a5 n a9 h1=>?_;have H:=h.ext n;have J:=hd.ext n;have o:∀w2 p2 cs t,Same (· =b) w w2->RdR F w2 b v xs p2->p2<=p+100->Blk w2 b1 [.int .i64 0,.int .i64 0,.int .i64 0,.string ⟨#[]⟩,.slice none 0 0] za->TmR (λ_=>False) w2 cs t->t.ks.length<=3->
   zn P za (.pointer (some ⟨b1,0,none⟩)) (.agg ⟨cs⟩) w2 λ_ w1=>vlv P za (.pointer (some ⟨b1,0,none⟩)) w1 λr w2=>K r w2:=by
  intro w2 p2 cs t hs W a1 U hc Z;refine ZB U rfl hc (λx y=>y.elim) λA l ab ht=>?_;exact hK A p2 _ t (same_new hs l (by omega)) (W.new l (by omega) λx y e=>by have:=hF x y;omega) a1 (ht.weaken λx y _=>y.elim) Z
 simp only[push_cast];refine zh (λa=>?_) (λa=>?_)
 ·exact o _ _ _ _ (Same.of_ext n) H (by omega) h1 (UP 24 0 0 _) (Gg _)
 simp(disch:=(simp only[push_cast])) only[push_cast,J.len];have hlen:=a0.1;refine pick_spec H (by omega) (by omega) λw2 at_ B aa X hk _=>?_;have h2:=h1.same B (by omega);have z:∀A p3,Same (· =b) w A->RdR F A b v xs p3->p3<=p+50->Blk A b1 [.int .i64 0,.int .i64 0,.int .i64 0,.string ⟨#[]⟩,.slice none 0 0] za->
   vcall P Zu #[.int .i64 sort] A λt52 O=>vcall P zN #[.pointer (some ⟨b,0,none⟩),t52] O λt53 Q=>zE P za [(0,(.int .i64 20)),(1,.int .i64 sort),(2,t53)] Q λt54 R=>zn P za (.pointer (some ⟨b1,0,none⟩)) t54 R λ_ S=>vlv P za (.pointer (some ⟨b1,0,none⟩)) S λN T=>K N T:=by
  intro A p3 hs W a2 U;refine l1Two_spec (by omega) ?_;have a7:2^sort.toNat<=2^4:=gO (by omega) (by omega);refine pick_spec W (by omega) (by omega) λw4 k E a3 f _ _=>?_;simp only[push_cast];exact o _ _ _ _ (hs.trans E) f (by omega) (U.same E (by have:=n.size;omega)) (UP 20 sort k _) (Gg _)
 refine vloop_up ds.length (λi u w'=> ∃L,u=[.int .i64 i]/\Same (· =b) w w'/\RdR F w' b v xs L/\L<=p+1+i/\Blk w' b1 [.int .i64 0,.int .i64 0,.int .i64 0,.string ⟨#[]⟩,.slice none 0 0] za/\DclsR D w' dv ds)
  ⟨p+1,rfl,(Same.of_ext n).trans B,X,by omega,h2,J.same B λx y _ e=>hD x y e⟩ ?_
 rintro i _ _ A C hi ⟨L,rfl,l,I,a2,G,Y⟩ hC;refine zS (λu w'=>u=[]/\i<ds.length/\Same (· =b) w w'/\RdR F w' b v xs (L+1)/\Blk w' b1 [.int .i64 0,.int .i64 0,.int .i64 0,.string ⟨#[]⟩,.slice none 0 0] za/\DclsR D w' dv ds) (λC' V=>?_) ?_
 ·simp only[push_cast];refine zh (λc=>?_) (λc=>?_)
  ·refine pick_spec I (by omega) (by omega) λw4 k d a3 f _ _=>?_;have m:=G.same d (by omega);simp only[push_cast];refine zh (λe=>?_) (λe=>?_)
   ·exact V _ _ ⟨rfl,by omega,l.trans d,f,m,Y.same d λx y _ e=>hD x y e⟩
   ·exact z _ _ (l.trans d) f (by omega) m
  ·exact z _ _ l I (by omega) G
 ·rintro u g w4 ⟨rfl,a6,d,f,m,s⟩;have a4:at_<ds.length:=by have:=hk (by omega);omega
  have e1:IntKind.i64.wrap ((at_:Int)+(i:Int))=((at_+i:Nat):Int):=by rw[zJ (by omega) (by omega)];omega
  have eR:∀(w:World) (K:Value->World->Prop),zq P .rem ze false (.int .i64 ((at_+i:Nat):Int)) (.int .i64 (ds.length:Int)) w K=K (.int .i64 (((at_+i)%ds.length:Nat):Int)) w:=λw K=>by rw[We (by omega)];rfl
  have hm:(at_+i)%ds.length<ds.length:=Pq _ (by omega);obtain⟨q,hq⟩:∃q,q=at_+i:=⟨_,rfl⟩;rw[<-hq] at e1 eR hm;obtain⟨j,hj⟩:∃j,j=q%ds.length:=⟨_,rfl⟩;rw[<-hj] at eR hm;simp(disch:=first|(simp only[push_cast])|omega) only[push_cast,e1,eR,s.iaddr]
  try simp(disch:=first|(simp only[push_cast])|omega) only[push_cast,s.load0,s.load1]
  refine zh (λc=>?_) (λc=>?_)
  ·exact o _ _ _ _ d f (by omega) m (UP 21 0 0 _) (Gg _)
  ·rw[inc64' (by omega)];exact hC (by omega) _ _ ⟨L+1,rfl,d,f,by omega,m,s⟩
end
section
variable {w:World} {K:Value->World->Prop} {F D G:Nat->Prop}
theorem kidsL {css:List (List Value)} {ts:List M.Tm} (m:css.length=ts.length) (o:css.length<=100) (h:∀i,i<ts.length->TmR G w (css.getD i []) (ts.getD i default))
  (l:∀w' a,Ext w w'->w'.heap.size=w.heap.size+1->TmsR (λz=>G z\/z=w.heap.size) w' (.slice a css.length css.length) ts->K (.slice a css.length css.length) w'):
  vbuildS P zb (css.map λc=>Value.agg ⟨c⟩).length ((css.map λc=>Value.agg ⟨c⟩).zipIdx.map λp=>(p.2,p.1)) w K:=by
 have d:∀u,u∈css->u.length=5:=λu hu=>by
  obtain⟨i,f,rfl⟩:=gq hu;have:=yq (h i (by omega));rwa[k6,K3 f] at this
 refine vbuildS_row (us:=css) (k:=5) xd xn zH (by rw[GM];rfl) d (by rw[X0];omega) λb w' q he hs j=>?_;rw[X0];refine l w' _ he hs ⟨css,?_,m,λi f=>((h i f).ext he).weaken λx g _=> .inl g⟩;have n:Own P 0 5 zb w' (.slice (some ⟨b,0,none⟩) css.length css.length) css:=Blk.ownk (by rw[Kl];exact j) d rfl (by omega);exact n.sl.weaken λx g _=> .inr (by have e:x=b:=(gh g).symm;omega)
theorem Xq0 {v0:Value} {t0:M.Tm} (b:TermR G w v0 t0) (c:∀w' a,Ext w w'->w'.heap.size=w.heap.size+1->TmsR (λz=>G z\/z=w.heap.size) w' (.slice a 1 1) [t0]->K (.slice a 1 1) w'):vbuildS P zb 1 [(0,v0)] w K:=by
 obtain⟨c0,rfl,e⟩:=b.cells;refine kidsL (css:=[c0]) (ts:=[t0]) rfl (by simp) (λi d=>?_) c;have:i=0:=by simpa using d
 subst this;exact e
theorem kids2 {v0 v1:Value} {t0 t1:M.Tm} (b:TermR G w v0 t0) (c:TermR G w v1 t1) (d:∀w' a,Ext w w'->w'.heap.size=w.heap.size+1->TmsR (λz=>G z\/z=w.heap.size) w' (.slice a 2 2) [t0,t1]->K (.slice a 2 2) w'):vbuildS P zb 2 [(0,v0),(1,v1)] w K:=by
 obtain⟨c0,rfl,f⟩:=b.cells;obtain⟨c1,rfl,g⟩:=c.cells;refine kidsL (css:=[c0,c1]) (ts:=[t0,t1]) rfl (by simp) (λi e=>?_) d
 match i,e with
 |0,_=>exact f
 |1,_=>exact g
theorem kids3 {v0 v1 v2:Value} {t0 t1 t2:M.Tm} (b:TermR G w v0 t0) (c:TermR G w v1 t1) (d:TermR G w v2 t2) (e:∀w' a,Ext w w'->w'.heap.size=w.heap.size+1->TmsR (λz=>G z\/z=w.heap.size) w' (.slice a 3 3) [t0,t1,t2]->K (.slice a 3 3) w'):vbuildS P zb 3 [(0,v0),(1,v1),(2,v2)] w K:=by
 obtain⟨c0,rfl,g⟩:=b.cells;obtain⟨c1,rfl,h⟩:=c.cells;obtain⟨c2,rfl,j⟩:=d.cells;refine kidsL (css:=[c0,c1,c2]) (ts:=[t0,t1,t2]) rfl (by simp) (λi f=>?_) e
 match i,f with
 |0,_=>exact g
 |1,_=>exact h
 |2,_=>exact j
abbrev yH0:List Value:=[.int .i64 0,.int .i64 0,.int .i64 0,.string ⟨#[]⟩,.slice none 0 0]
structure Dw (F D:Nat->Prop) (w0:World) (b b1:Nat) (v dv:Value) (xs:List Nat) (ds:List M.Dcl) (w:World) (p:Nat):Prop where
 same:Same (· =b) w0 w
 rd:RdR F w b v xs p
 var:Blk w b1 yH0 za
 dcl:DclsR D w dv ds
 old:b<w0.heap.size
 new:b1=w0.heap.size
 size:b1<w.heap.size
 hF:∀x,F x->x<w0.heap.size
 hD:∀x,D x->x≠b
 hD1:∀x,D x->x<w0.heap.size
section
variable {w0:World} {b b1 p:Nat} {v dv:Value} {xs:List Nat} {ds:List M.Dcl}
theorem Dw.step {w1:World} {p1:Nat} (h:Dw F D w0 b b1 v dv xs ds w p) (hs:Same (· =b) w w1) (a:RdR F w1 b v xs p1):Dw F D w0 b b1 v dv xs ds w1 p1:=
 ⟨h.same.trans hs,a,h.var.same hs (by have:=h.old;have:=h.new;omega),h.dcl.same hs λx c _ e=>h.hD x c e,h.old,h.new,gI h.size hs.size,h.hF,h.hD,h.hD1⟩
theorem Dw.ext {w1:World} (h:Dw F D w0 b b1 v dv xs ds w p) (he:Ext w w1):Dw F D w0 b b1 v dv xs ds w1 p:=h.step (Same.of_ext he) (h.rd.ext he)
theorem Dw.begin (h:RdR F w b v xs p) (hF:∀x,F x->x<w.heap.size) (f:DclsR D w dv ds) (hD:∀x,D x->x≠b) (hD1:∀x,D x->x<w.heap.size) {K:Value->World->Prop} (e:∀w1,Dw F D w b w.heap.size v dv xs ds w1 p->K (.pointer (some ⟨w.heap.size,0,none⟩)) w1):y4 P za w K:=by
 refine zD zH λb1 w1 c a g d=>?_;subst c;exact e w1 ⟨Same.of_ext a,h.ext a,d,f.ext a,h.blk.lt,rfl,by omega,hF,hD,hD1⟩
abbrev Nw (b1:Nat) (x:Nat):Prop:=b1<x
theorem Dw.fin {c:Nat} {cs:List Value} {t:M.Tm} (h:Dw F D w0 b b1 v dv xs ds w p) {p0:Nat} (j:p<=p0+c) (k:TmR (Nw b1) w cs t) (f:t.ks.length<=3) (i:QF0 K F w0 b p0 c v xs):
  zn P za (.pointer (some ⟨b1,0,none⟩)) (.agg ⟨cs⟩) w λ_ w1=>vlv P za (.pointer (some ⟨b1,0,none⟩)) w1 λr w2=>K r w2:=by
 have:=h.old;have:=h.new;refine ZB h.var rfl k (λx d e=>by subst e;exact Nat.lt_irrefl _ d) λn a m g=>?_;exact i n p _ t (same_new h.same a (by omega)) (h.rd.new a (by omega) λx d e=>by have:=h.hF x d;omega) j (g.weaken λx d _=>by have l:b1<x:=d;omega) f
theorem Dw.pick {n:Int} (h:Dw F D w0 b b1 v dv xs ds w p) (f:n<=1099511627776) (g:p<1099511627776) (d:∀w1 (k:Nat),Dw F D w0 b b1 v dv xs ds w1 (p+1)->Same (· =b) w w1->(1<=n->(k:Int)<n)->(n<1->k=0)->K (.int .i64 k) w1):vcall P zN #[.pointer (some ⟨b,0,none⟩),.int .i64 n] w K:=
 pick_spec h.rd f g λw1 k hs i e a c=>d w1 k (h.step hs e) hs a c
theorem Dw.sub {g:Nat} {args:Array Value} {c:Nat} (h:Dw F D w0 b b1 v dv xs ds w p) (i:∀d,QF0 d F w b p c v xs->vcall P g args w d) (e:∀w1 p1 tv t,Dw F D w0 b b1 v dv xs ds w1 p1->Same (· =b) w w1->p1<=p+c->TermR (Nw b1) w1 tv t->t.ks.length<=3->K tv w1):vcall P g args w K:=
 i K λw1 p1 tv t hs f j k a=>e w1 p1 tv t (h.step hs f) hs j (k.weaken λx l _=>by have:=h.size;show b1<x;omega) a
theorem Dw.keep {tv:Value} {t:M.Tm} {w1:World} (h:Dw F D w0 b b1 v dv xs ds w p) (a:TermR (Nw b1) w tv t) (hs:Same (· =b) w w1):TermR (Nw b1) w1 tv t:=
 a.same hs λx c _ e=>by subst e;have:=h.old;have:=h.new;have d:b1<x:=c;omega
theorem Dw.tms {kv:Value} {ks:List M.Tm} (h:Dw F D w0 b b1 v dv xs ds w p) {w1:World} (c:TmsR (λz=>Nw b1 z\/z=w.heap.size) w1 kv ks):TmsR (Nw b1) w1 kv ks:=
 c.weaken λx a _=>by
  rcases a with a|a
  ·exact a
  ·have:=h.size;show b1<x;omega
end
def j50 (d:Nat):Nat:=100*4^d
theorem cost_succ (d:Nat):j50 (d+1)=4*j50 d:=by unfold j50;rw[Nat.pow_succ];omega
theorem cost_ge (d:Nat):100<=j50 d:=by
 have:1<=4^d:=Nat.pow_pos (by omega);unfold j50;omega
def y90 (d:Nat):Prop:=∀{w:World} {K:Value->World->Prop} {F D:Nat->Prop} {b p:Nat} {v dv:Value} {xs:List Nat} {ds:List M.Dcl} {sort deep:Int},RdR F w b v xs p->(∀x,F x->x<w.heap.size)->DclsR D w dv ds->(∀x,D x->x≠b)->(∀x,D x->x<w.heap.size)->Dok ds->0<=sort->sort<=4-> -100<=deep->deep<=d->
 p+j50 d<1099511627776->QF0 K F w b p (j50 d) v xs->vcall P yr #[.pointer (some ⟨b,0,none⟩),dv,.int .i64 sort,.int .i64 deep] w K
theorem num_draw {w0:World} {b b1 p:Nat} {v dv:Value} {xs:List Nat} {ds:List M.Dcl} {ns:List Int} (h:Dw F D w0 b b1 v dv xs ds w p) (a:ns≠[]) (c:ns.length<=1000) (l:p<1099511627776) (j:∀w1 m,Dw F D w0 b b1 v dv xs ds w1 (p+1)->Same (· =b) w w1->m∈ns->K (.int .i64 m) w1):
  vbuildS P zt ns.length ((ns.map λx=>Value.int .i64 x).zipIdx.map λp=>(p.2,p.1)) w λs w1=>vcall P x7 #[.pointer (some ⟨b,0,none⟩),s] w1 K:=by
 have:=vbuildS_row1 (w:=w) (K:=λs w1=>vcall P x7 #[.pointer (some ⟨b,0,none⟩),s] w1 K) (t:=zt) (xs:=ns.map λx=>Value.int .i64 x) Je YC X7 (λx d=>by obtain⟨y,_,rfl⟩:=gm.1 d;rfl) (by simp;omega) λb2 w' o f q i=>by
  have n:Ints (· =b2) w' (.slice (some ⟨b2,0,none⟩) (ns.map λx=>Value.int .i64 x).length (ns.map λx=>Value.int .i64 x).length) ns:=i.sl1 rfl (by simp;omega);have g:=h.ext f;have:=h.rd.blk.lt;refine num_spec g.rd n a c l (λx d e=>by subst d;omega) λw2 m hs r k hm=>?_;exact j w2 m (g.step hs k) ((Same.of_ext f).trans hs) hm
 rwa[X0] at this
theorem l2Asks_spec {d:Nat} (hT:y90 d) {b p:Nat} {v dv:Value} {xs:List Nat} {ds:List M.Dcl} {deep:Int} (h:RdR F w b v xs p) (hF:∀x,F x->x<w.heap.size) (hd:DclsR D w dv ds) (hD:∀x,D x->x≠b) (hD1:∀x,D x->x<w.heap.size) (G:Dok ds) (aa:1<=deep) (ab:deep<=d+1) (ac:d<=9)
  (hp:p+2*j50 d+10<1099511627776) (U:QF0 K F w b p (2*j50 d+10) v xs):vcall P K7 #[.pointer (some ⟨b,0,none⟩),dv,.int .i64 deep] w K:=by
 apply ZR0;refine Dw.begin h hF hd hD hD1 λw1 h1=>?_;have hg:=h1.new;have e1:IntKind.i64.wrap (deep-1)=deep-1:=zJ (by omega) (by omega);have f:∀{w2:World} {p2:Nat} {s:Int} {V:Value->World->Prop},Dw F D w b w.heap.size v dv xs ds w2 p2->0<=s->s<=4->p2+j50 d<1099511627776->(∀B R tv t,Dw F D w b w.heap.size v dv xs ds B R->Same (· =b) w2 B->R<=p2+j50 d->TermR (Nw w.heap.size) B tv t->t.ks.length<=3->V tv B)->
   vcall P yr #[.pointer (some ⟨b,0,none⟩),dv,.int .i64 s,.int .i64 (deep-1)] w2 V:=λr y i a4 X=>
  r.sub (λV hk=>hT r.rd (λx hx=>gI (hF x hx) r.same.size) r.dcl hD (λx hx=>gI (hD1 x hx) r.same.size) G y i (by omega) (by omega) a4 hk) X
 refine h1.pick (by omega) (by omega) λw2 k r ag hk _=>?_;simp only[push_cast,e1];refine zh (λa=>?_) (λa=>?_)
 ·refine f r (by omega) (by omega) (by omega) λB R I t0 o H O l _=>?_;refine Xq0 l λJ sa Y aj j=>?_;have n:=o.ext Y;simp only[push_cast];exact n.fin (p0:=p) (by omega) (TmR.of (t:= .mk 25 0 0 _ [t0]) (o.tms j)) (Gf rfl) U
 refine zh (λa1=>?_) (λa1=>?_)
 ·refine f r (by omega) (by omega) (by omega) λB R I t0 o H O l _=>?_;refine f o (by omega) (by omega) (by omega) λJ S T t1 n i Q q _=>?_;refine kids2 (o.keep l i) q λw5 sa E a7 j=>?_;have z:=n.ext E;simp only[push_cast];exact z.fin (p0:=p) (by omega) (TmR.of (t:= .mk 26 0 0 _ [t0,t1]) (n.tms j)) (Gf rfl) U
 refine zh (λa2=>?_) (λa2=>?_)
 ·refine f r (by omega) (by omega) (by omega) λB R I t0 o H O l _=>?_;refine f o (by omega) (by omega) (by omega) λJ S T t1 n i Q q _=>?_;refine kids2 (o.keep l i) q λw5 sa E a7 j=>?_;have z:=n.ext E;simp only[push_cast];exact z.fin (p0:=p) (by omega) (TmR.of (t:= .mk 27 0 0 _ [t0,t1]) (n.tms j)) (Gf rfl) U
 refine r.pick (by omega) (by omega) λB k3 o H a0 _=>?_;have a8:=a0 (by omega);simp only[push_cast];rw[zJ (x:=1+(k3:Int)) (by omega) (by omega)];refine zS (λu J=> ∃s S,u=[.int .i64 s]/\0<=s/\s<=4/\S<=p+4/\Dw F D w b w.heap.size v dv xs ds J S) (λC W=>?_) ?_
 ·have hlen:=G.1;have L:=o.dcl;simp(disch:=(simp only[push_cast])) only[push_cast,L.len];refine zh (λc=>?_) (λc=>?_)
  ·refine o.pick (by omega) (by omega) λJ k4 n i ad _=>?_;have N:=n.dcl;simp only[push_cast];refine zh (λe=>?_) (λe=>?_)
   ·try simp(disch:=(simp only[push_cast])) only[push_cast,N.len]
    refine n.pick (by omega) (by omega) λw5 k5 z a5 a3 _=>?_;have a9:=a3 (by omega);have A:=z.dcl;simp(disch:=first|(simp only[push_cast])|omega) only[push_cast,A.iaddr]
    try simp(disch:=first|(simp only[push_cast])|omega) only[push_cast,A.load1]
    have ai:1<=(ds.getD k5 (M.nada,0)).2/\(ds.getD k5 (M.nada,0)).2<=4/\_:=G.2 k5 (by omega);exact W _ _ ⟨_,_,rfl,by omega,by omega,by omega,z⟩
   ·exact W _ _ ⟨_,_,rfl,by omega,by omega,by omega,n⟩
  ·exact W _ _ ⟨_,_,rfl,by omega,by omega,by omega,o⟩
 ·rintro u g J ⟨s,S,rfl,y,i,Q,n⟩;refine num_draw (ns:=[15,16,17,15]) n (by simp) (by decide) (by omega) λw5 m z a5 hm=>?_;simp only[push_cast,e1];refine f z y i (by omega) λw6 p6 I t0 h6 ah ae l _=>?_;refine f h6 y i (by omega) λw7 p7 T t1 h7 a6 af q _=>?_;refine kids2 (h6.keep l a6) q λw8 sa Z ak j=>?_;have h8:=h7.ext Z;simp only[push_cast];exact h8.fin (p0:=p) (by omega) (TmR.of (t:= .mk m 0 0 _ [t0,t1]) (h7.tms j)) (Gf rfl) U
end
end Go.Proofs.YtokflbdfnbppjaaGreatDoor
